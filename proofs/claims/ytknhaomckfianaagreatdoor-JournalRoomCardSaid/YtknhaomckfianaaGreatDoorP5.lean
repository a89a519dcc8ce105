/- Part 5. -/
import Derived.Laws.Sem
import Derived.Laws.RangeString
import Derived.Test.YtknhaomckfianaaGreatDoorP2
import Derived.Test.YtknhaomckfianaaGreatDoorP3
import Derived.Test.YtknhaomckfianaaGreatDoorP4
set_option linter.all false
namespace Go.Sym
open Go.RowKit (Below)
section
variable{P:Program}{w0:World}{ρ:Rho}{w:World}{σ:St}{K:Fin}{k:AV->Tr}
def aC{r:Nat}{o:Obj}(h:w.heap[r]? =some o)(ho:∀c t f,o≠ .cells c t f):(getObj r).run P w= .ok o w:=by cases o <;> first|(exact absurd rfl (ho _ _ _))|(simp [getObj,Sem.run,h])
def ua{x:AV}{v:Value}{f:Nat->Tr}(hx:VR ρ x v)(h:run (zq x f) σ K=true):∃n,run (f n) σ K=true/\∀w,(Builtin.lenOf v).run P w= .ok n w:=by
 cases hx with
 |nils=>exact⟨0,h,λ_=>rfl⟩
 |slc b g o len cap es a c t8=>exact⟨len,h,λ_=>rfl⟩
 |str s=>
  have hn:(bytesOf s).length=s.size:=by unfold bytesOf;rw[aaF];rfl
  exact⟨s.size,by have:=fg h;rw[hn] at this;exact this,λ_=>rfl⟩
 |_=>exact(ac h).elim
def jy{x:AV}{v:Value}{size n len:Nat}{f:List AV->Tr}(hS:SI σ)(hG:Good w0 ρ σ.h w)(hx:VR ρ x v)(hlen:(Builtin.lenOf v).run P w= .ok len w)(hn:n<=len)(m8:1<=size)(h:run (iN size n x f) σ K=true):
 ∃l cs a8,a8.h=σ.h/\SI a8/\run (f l) a8 K=true/\LR ρ l cs/\cs.length=n * size/\∀w2:World,w2.heap=w.heap->(Builtin.firstCells size n v).run P w2= .ok cs.toArray w2:=by
 cases hx with
 |nils=>
  have:len=0:=by have:Result.ok 0 w=Result.ok len w:=hlen;injection this with e;exact e.symm
  subst this
  have:n=0:=by omega
  subst this
  exact⟨[],[],σ,rfl,hS,h,LR.nil ρ,by simp,λ_ _=>rfl⟩
 |slc b g o ln cap es a c t8=>
  have:ln=len:=by have:Result.ok ln w=Result.ok len w:=hlen;injection this
  subst this
  rcases bf h with⟨hz,h⟩|⟨hz,h⟩
  ·have hz:=aF hz;refine⟨[],[],σ,rfl,hS,h,LR.nil ρ,by simp [hz],λw2 _=>?_⟩;simp [Builtin.firstCells,hz,loadCells,loadCellsFrom]
  ·have h:=fg h;have i4:0<ln:=by
    rcases aaR n with e|e
    ·subst e;simp at hz
    ·omega
   obtain⟨hm,hh,ho,ea⟩:=pe t8 i4;subst ea;obtain⟨l,cs,a8,e1,j7,h,hL,hlen,g8,_⟩:=fj (P:=P) hS hG hh ho h;refine⟨l,cs,a8,e1,j7,h,hL,hlen,λw2 Yn=>run_firstCells_some w2 size n _ ln c cs hlen λj v hj=>?_⟩;rw[cN ho, ←g8 j v hj];simp only [World.cell?,Yn];rw[show o+j-hm.shift=o-hm.shift+j by omega]
 |str s=>
  obtain⟨h1,h⟩:=aj h
  have h1:=aF h1
  subst h1
  have h:=eO (zH h)
  have hls:s.size=len:=by have:Result.ok s.size w=Result.ok len w:=hlen;injection this
  have hL:=(gY ρ s).take n
  have e1:(bY (bytesOf s)).take n=bY ((bytesOf s).take n):=by simp [bY,List.map_take]
  rw[e1] at hL
  refine⟨_,_,σ,rfl,hS,h,hL, ?_,λw2 _=>?_⟩
  ·have:s.data.size=s.size:=rfl;simp;omega
  simp only [Builtin.firstCells,aac]
  congr 1
  apply Array.ext'
  simp [ByteArray.data_extract,abE]
 |_=>exact(ac h).elim
def BM{e:TypeId}{size need:Nat}{old new:List AV}{ovs nvs:List Value}{rest:Nat->List Value}{a:Value}(hS:SI σ)(hG:Good w0 ρ σ.h w)(ho:LR ρ old ovs)(hn:LR ρ new nvs)(c:Nat)(hc:need<=c)(hr:ovs.length+nvs.length+(rest c).length=c * size)(h:run (kz e size old new need k) σ K=true)(s:Sem Value)(hs:s.run P w= .ok (.slice (some ⟨w.heap.size,0,none⟩) need c) (w.drew.alloc (.cells (ovs++nvs++rest c).toArray e))):Res P w0 ρ w k K s:=by
 have h:=eO h
 have hL:=ho.append hn
 obtain⟨b,a8,h2,j7,hle,g9⟩:=jx (w:=w.drew) (ovs++nvs++rest c).toArray e hS (hG.drawn _) (by simp [ho.1,hn.1]) (λi a ha=>by
  obtain⟨v,hv,hr⟩:=hL.get ha;refine⟨v, ?_,hr⟩;have hi:i<(ovs++nvs).length:=by
   rcases aaf i (ovs++nvs).length with h'|h'
   ·exact h'
   ·rw[aak h'] at hv;cases hv
  show(ovs++nvs++rest c).toArray[i]? =some v;rw[Zu,aaB hi];exact hv) h
 refine⟨_,a8,_,_,_,h2,j7,g9,hle, ?_,hs⟩
 refine .slc _ _ _ _ _ _ _ _ ⟨hc,.inr ⟨_,Rho.put_at _ _ _ _,aan _,rfl, ?_⟩⟩
 show 0-0+c * size<=(ovs++nvs++rest c).toArray.size
 simp;omega
def D5{g:Nat}{f:T Cell->Tr}:∀(l:List AV) (i:Nat) (t:T Cell),run (Gv g l i t f) σ K=true->
 ∃c,run (f c) σ K=true/\(∀a∈l,eK a=true)/\∀o x,c.get o=some x->(∃(j:Nat) (a:AV),o=i+j/\l[j]? =some a/\x= .mk g a)∨(t.get o=some x/\(o<i∨i+l.length<=o)):=by
 intro l
 induction l with
 |nil=>intro i t h;exact⟨t,h,by simp,λo x hx=>.inr ⟨hx,by simp;omega⟩⟩
 |cons a l ih=>
  intro i t h
  have h:run (aa (eK a) (T.setK t i (.mk g a) λt=>fN (Nat.succ i) λi=>Gv g l i t f) .fail) σ K=true:=h
  obtain⟨h1,h⟩:=aj h
  rw[T.setK_eq] at h
  obtain⟨c,h2,h3,h4⟩:=ih _ _ (fg h)
  refine⟨c,h2,λb hb=>?_,λo x hx=>?_⟩
  ·rcases List.mem_cons.mp hb with e|hb
   ·subst e;exact h1
   ·exact h3 b hb
  ·rcases h4 o x hx with⟨j,b,e,hb,w6⟩|⟨w6,ho⟩
   ·exact .inl ⟨j+1,b,by omega,by simpa using hb,w6⟩
   ·by_cases e:o=i
    ·subst e;have:=T.get_set_some _ _ w6;exact .inl ⟨0,a,by omega,rfl,this⟩
    ·rw[T.get_set_ne _ e] at w6;exact .inr ⟨w6,by simp at ho⊢;omega⟩
def Good.fork{H:T ABlk}{w':World}(hG:Good w0 ρ H w){b gen lo hi fl fh hi' ty:Nat}{c c':T Cell}{h2:Home}(hb:H.get b=some (.cells c gen lo hi fl fh false ty))(d4:b+1<2 ^ 64)(hbe:Kept ρ.own w0.heap.size w w')(YY:∀k,k<w.heap.size->(∀g h,ρ.at_ b g=some h->h.blk≠k)->w'.heap[k]? =w.heap[k]?)(m8:w.heap.size<=w'.heap.size)(WG:∀b' g h,b'≠b->ρ.at_ b' g=some h->w'.heap[h.blk]? =w.heap[h.blk]?)(Xb:h2.blk<w'.heap.size)(j4:(∃g',ρ.at_ b g'=some h2)∨w.heap.size<=h2.blk)(hB:ρ.le (ρ.put b (gen+1) h2)->BR (ρ.put b (gen+1) h2) w0.heap.size w' b (.cells c' (gen+1) lo hi' fl fh false ty)):
 ρ.le (ρ.put b (gen+1) h2)/\Good w0 (ρ.put b (gen+1) h2) (H.set b (.cells c' (gen+1) lo hi' fl fh false ty)) w':=by
 have x6:ρ.at_ b (gen+1)=none:=by
  cases h:ρ.at_ b (gen+1) with
  |none=>rfl
  |some x=>have:gen+1<=gen:=hG.gens b (gen+1) x _ h hb;omega
 have hle:ρ.le (ρ.put b (gen+1) h2):=Rho.le_put x6
 refine⟨hle,⟨hG.below.trans hbe,λb' y hy=>?_,λb' g h hh=>?_,λb1 g1 x1 b2 g2 x2 x9 p7 e=>?_,λb' g h y hh hy=>?_,λb' arr ty hf=>?_,hG.frzB,λb' k I l w9 g h hh=>?_⟩,λx hx=>by obtain⟨b,g,h,q1,q2,q3⟩:=hG.ownB x hx;exact⟨b,g,h,q1,hle.at_ _ _ _ q2,q3⟩⟩
 ·by_cases e:b'=b
  ·subst e;rw[T.get_set_same _ _ _ d4] at hy;injection hy with hy;subst hy;exact hB hle
  ·rw[T.get_set_ne _ e] at hy;exact(hG.blk b' y hy).keep hle λg h hh=>WG b' g h e hh
 ·simp only [Rho.put] at hh;split at hh
  ·rename_i e;injection hh with hh;subst hh;exact⟨Xb,_,by rw[e.1];exact T.get_set_same _ _ _ d4⟩
  ·obtain⟨q1,y,q2⟩:=hG.dom _ _ _ hh;refine⟨by omega, ?_⟩;by_cases e:b'=b
   ·subst e;exact⟨_,T.get_set_same _ _ _ d4⟩
   ·exact⟨y,by rw[T.get_set_ne _ e];exact q2⟩
 ·simp only [Rho.put] at x9 p7;split at x9
  ·rename_i c1;injection x9 with x9;subst x9;split at p7
   ·rename_i c2;injection p7 with p7;exact⟨c1.1.trans c2.1.symm,p7⟩
   ·rcases j4 with⟨g',Xs⟩|j4
    ·rw[c1.1];exact hG.inj _ _ _ _ _ _ Xs p7 e
    ·have:=(hG.dom _ _ _ p7).1;omega
  ·split at p7
   ·rename_i c2;injection p7 with p7;subst p7;rcases j4 with⟨g',Xs⟩|j4
    ·rw[c2.1];exact hG.inj _ _ _ _ _ _ x9 Xs e
    ·have:=(hG.dom _ _ _ x9).1;omega
   ·exact hG.inj _ _ _ _ _ _ x9 p7 e
 ·by_cases e:b'=b
  ·subst e;rw[T.get_set_same _ _ _ d4] at hy;injection hy with hy;subst hy;simp only [Rho.put] at hh;split at hh
   ·rename_i c1;show g<=gen+1;omega
   ·have:g<=gen:=hG.gens b' g h _ hh hb;show g<=gen+1;omega
  ·rw[T.get_set_ne _ e] at hy;simp only [Rho.put] at hh;split at hh
   ·rename_i c1;exact absurd c1.1 e
   ·exact hG.gens b' g h y hh hy
 ·have hf:ρ.frz b'=some (arr,ty):=hf;obtain⟨⟨fr,q1⟩,q2⟩:=hG.frz b' arr ty hf;have c8:b'<w.heap.size:=by
   rcases aaf b' w.heap.size with h'|h'
   ·exact h'
   ·rw[aaN h'] at q1;cases q1
  refine⟨⟨fr,by rw[YY b' c8 (λg h hh=>hG.frzE hf hh hb (λh=>h))];exact q1⟩,λb1 g h hh e=>?_⟩;simp only [Rho.put] at hh;split at hh
  ·injection hh with hh;subst hh;rcases j4 with⟨g',Xs⟩|j4
   ·exact absurd e (hG.frzE hf Xs hb (λh=>h))
   ·omega
  ·obtain⟨y,r1,r2⟩:=q2 _ _ _ hh e;exact⟨y,by rw[T.get_set_ne _ (λe=>by subst e;rw[hb] at r1;injection r1 with r1;subst r1;exact(show False from r2))];exact r1,r2⟩
 ·by_cases e:b'=b
  ·subst e;rw[T.get_set_same _ _ _ d4] at w9;injection w9 with w9;exact absurd w9 (λh=>by cases h)
  ·rw[T.get_set_ne _ e] at w9;simp only [Rho.put] at hh;split at hh
   ·rename_i c1;exact absurd c1.1 e
   ·exact hG.objO b' k I l w9 g h hh
def Good.forkX{H:T ABlk}{w':World}(hG:Good w0 ρ H w){b gen:Nat}{x0 x:ABlk}{h2:Home}(hb:H.get b=some x0)(Z7:∀g,F6 g x0->g<=gen)(hg1:∀g,g<=gen+1->F6 g x)(d4:b+1<2 ^ 64)(hbe:Kept ρ.own w0.heap.size w w')(YY:∀k,k<w.heap.size->(∀g h,ρ.at_ b g=some h->h.blk≠k)->w'.heap[k]? =w.heap[k]?)(m8:w.heap.size<=w'.heap.size)(WG:∀b' g h,b'≠b->ρ.at_ b' g=some h->w'.heap[h.blk]? =w.heap[h.blk]?)(Xb:h2.blk<w'.heap.size)(j4:(∃g',ρ.at_ b g'=some h2)∨w.heap.size<=h2.blk)(hB:ρ.le (ρ.put b (gen+1) h2)->BR (ρ.put b (gen+1) h2) w0.heap.size w' b x)(hnf:¬tz x0:=by exact λh=>h)(hxo:∀k I l,x≠ .obj k I l:=by intro _ _ _ h;cases h):
 ρ.le (ρ.put b (gen+1) h2)/\Good w0 (ρ.put b (gen+1) h2) (H.set b x) w':=by
 have x6:ρ.at_ b (gen+1)=none:=by
  cases h:ρ.at_ b (gen+1) with
  |none=>rfl
  |some y=>have:gen+1<=gen:=Z7 _ (hG.gens b (gen+1) y _ h hb);omega
 have hle:ρ.le (ρ.put b (gen+1) h2):=Rho.le_put x6
 refine⟨hle,⟨hG.below.trans hbe,λb' y hy=>?_,λb' g h hh=>?_,λb1 g1 x1 b2 g2 x2 x9 p7 e=>?_,λb' g h y hh hy=>?_,λb' arr ty hf=>?_,hG.frzB,λb' k I l w9 g h hh=>?_⟩,λx hx=>by obtain⟨b,g,h,q1,q2,q3⟩:=hG.ownB x hx;exact⟨b,g,h,q1,hle.at_ _ _ _ q2,q3⟩⟩
 ·by_cases e:b'=b
  ·subst e;rw[T.get_set_same _ _ _ d4] at hy;injection hy with hy;subst hy;exact hB hle
  ·rw[T.get_set_ne _ e] at hy;exact(hG.blk b' y hy).keep hle λg h hh=>WG b' g h e hh
 ·simp only [Rho.put] at hh;split at hh
  ·rename_i e;injection hh with hh;subst hh;exact⟨Xb,_,by rw[e.1];exact T.get_set_same _ _ _ d4⟩
  ·obtain⟨q1,y,q2⟩:=hG.dom _ _ _ hh;refine⟨by omega, ?_⟩;by_cases e:b'=b
   ·subst e;exact⟨_,T.get_set_same _ _ _ d4⟩
   ·exact⟨y,by rw[T.get_set_ne _ e];exact q2⟩
 ·simp only [Rho.put] at x9 p7;split at x9
  ·rename_i c1;injection x9 with x9;subst x9;split at p7
   ·rename_i c2;injection p7 with p7;exact⟨c1.1.trans c2.1.symm,p7⟩
   ·rcases j4 with⟨g',Xs⟩|j4
    ·rw[c1.1];exact hG.inj _ _ _ _ _ _ Xs p7 e
    ·have:=(hG.dom _ _ _ p7).1;omega
  ·split at p7
   ·rename_i c2;injection p7 with p7;subst p7;rcases j4 with⟨g',Xs⟩|j4
    ·rw[c2.1];exact hG.inj _ _ _ _ _ _ x9 Xs e
    ·have:=(hG.dom _ _ _ x9).1;omega
   ·exact hG.inj _ _ _ _ _ _ x9 p7 e
 ·by_cases e:b'=b
  ·subst e;rw[T.get_set_same _ _ _ d4] at hy;injection hy with hy;subst hy;simp only [Rho.put] at hh;split at hh
   ·rename_i c1;exact hg1 g (by omega)
   ·have:g<=gen:=Z7 _ (hG.gens b' g h _ hh hb);exact hg1 g (by omega)
  ·rw[T.get_set_ne _ e] at hy;simp only [Rho.put] at hh;split at hh
   ·rename_i c1;exact absurd c1.1 e
   ·exact hG.gens b' g h y hh hy
 ·have hf:ρ.frz b'=some (arr,ty):=hf;obtain⟨⟨fr,q1⟩,q2⟩:=hG.frz b' arr ty hf;have c8:b'<w.heap.size:=by
   rcases aaf b' w.heap.size with h'|h'
   ·exact h'
   ·rw[aaN h'] at q1;cases q1
  refine⟨⟨fr,by rw[YY b' c8 (λg h hh=>hG.frzE hf hh hb hnf)];exact q1⟩,λb1 g h hh e=>?_⟩;simp only [Rho.put] at hh;split at hh
  ·injection hh with hh;subst hh;rcases j4 with⟨g',Xs⟩|j4
   ·exact absurd e (hG.frzE hf Xs hb hnf)
   ·omega
  ·obtain⟨y,r1,r2⟩:=q2 _ _ _ hh e;exact⟨y,by rw[T.get_set_ne _ (λe=>by subst e;rw[hb] at r1;injection r1 with r1;subst r1;exact(hnf:¬tz _) r2)];exact r1,r2⟩
 ·by_cases e:b'=b
  ·subst e;rw[T.get_set_same _ _ _ d4] at w9;injection w9 with w9;exact absurd w9 (hxo _ _ _)
  ·rw[T.get_set_ne _ e] at w9;simp only [Rho.put] at hh;split at hh
   ·rename_i c1;exact absurd c1.1 e
   ·exact hG.objO b' k I l w9 g h hh
def ub{b g gen:Nat}{h h2:Home}(hg:g<=gen)(hh:ρ.at_ b g=some h):(ρ.put b (gen+1) h2).at_ b g=some h:=by simp only [Rho.put];rw[if_neg (λe=>by omega)];exact hh
def D6{b gen lo fl fh len size n ty:Nat}{c0:T Cell}{new:List AV}{nvs:List Value}{H:T ABlk}{h:Home}(hG:Good w0 ρ H w)(d4:b+1<2 ^ 64)(hb:H.get b=some (.cells c0 gen lo (lo+len * size) fl fh false ty))(hh:ρ.at_ b gen=some h)(ho:h.shift<=lo)(hfh:fh<=lo+len * size)(j4:LR ρ new nvs)(hn:new.length=n * size){cap:Nat}(ac1:len+n<=cap)(w7:lo-h.shift+cap * size<=h.size)(p8:∀a∈new,eK a=true){c:T Cell}(hc:∀o x,c.get o=some x->(∃(j:Nat) (a:AV),o=(lo+len * size)+j/\new[j]? =some a/\x= .mk (gen+1) a)∨(c0.get o=some x/\(o<lo+len * size∨lo+len * size+new.length<=o))):
 ∃w',(storeCells ((⟨h.blk,lo-h.shift,none⟩:Addr).add (len * size)) nvs).run P w= .ok () w'/\ρ.le (ρ.put b (gen+1) h)/\Good w0 (ρ.put b (gen+1) h) (H.set b (.cells c (gen+1) lo (lo+len * size+n * size) fl fh false ty)) w':=by
 have hB:=hG.blk _ _ hb
 obtain⟨hm,q1,q2,_,arr,fr,q3,q4,q5,q6⟩:=hB.2 gen (aab _)
 rw[hh] at q1;injection q1 with q1;subst q1
 have q2:=q2 rfl
 obtain⟨q5a,q5b⟩:=q5 rfl
 have Yl:nvs.length=n * size:=by rw[j4.1,hn]
 have hmul:(len+n) * size<=cap * size:=ZX ac1 (aab _)
 rw[aaz] at hmul
 have WU:lo+len * size-h.shift+nvs.length<=arr.size:=by rw[Yl,q4];omega
 obtain⟨l7,s1,s2,s3,s4,s5,s6,s7⟩:=dJ h.blk nvs (lo+len * size-h.shift) w arr ty fr q3 WU
 have l8:=run_storeCells_cells (P:=P) h.blk (lo+len * size-h.shift) nvs 0 w (λj hj=>by
  simp only [World.cell?,q3]
  simp only [Zl,Bool.false_eq_true,if_false,aas]
  rw[aaK (by omega)];rfl) (λj hj=>by
  simp only [World.frozen?,q3,aas]
  cases hx:(decide (fr.1<=lo+len * size-h.shift+j) && decide (lo+len * size-h.shift+j<fr.2)) with
  |false=>rfl
  |true=>simp only [Bool.and_eq_true,decide_eq_true_eq] at hx;have:=q5b _ (.inl (show lo+len * size-h.shift+j<h.size by rw[←q4];omega)) hx.1 hx.2;omega) (j4.ones p8)
 rw[aas] at l8
 refine⟨_,by rw[cN ho];exact l8, ?_⟩
 refine hG.fork hb d4 (Kept.of_set (s7 0 (aan _)) s5 q2) (λk _ hk=>s5 k (λe=>hk gen h hh e.symm)) (by omega) (λb' g' h' j0 g7=>s5 _ λe'=>j0 (hG.inj _ _ _ _ _ _ g7 hh e').1) (by have:=(hG.dom _ _ _ hh).1;omega) (.inl ⟨gen,hh⟩) λhle=>⟨λo x hx=>?_,λg hg=>?_⟩
 ·rcases hc o x hx with⟨j,a,e1,e2,e3⟩|⟨hx,c8⟩
  ·have:j<new.length:=by
    rcases aaf j new.length with h'|h'
    ·exact h'
    ·rw[aak h'] at e2;cases e2
   subst e3;exact⟨by omega,by omega,aab _⟩
  ·have:=hB.1 o x hx;omega
 ·by_cases eg:g=gen+1
  ·subst eg;refine⟨h,Rho.put_at _ _ _ _,λ_=>q2,(λhc=>by cases hc),l7,fr,s1,by omega,λ_=>⟨q5a,q5b⟩,λo tag a YZ ht=>?_⟩;rcases hc o _ YZ with⟨j,a',e1,e2,e3⟩|⟨hx,c8⟩
   ·injection e3 with e3 e4;subst e4;have hj:j<new.length:=by
     rcases aaf j new.length with h'|h'
     ·exact h'
     ·rw[aak h'] at e2;cases e2
    obtain⟨v,hv,hr⟩:=j4.get e2;refine⟨by omega,v, ?_,hr.mono hle⟩;rw[show o-h.shift=lo+len * size-h.shift+j by omega,s3 j (by omega)];exact hv
   ·have M':=hB.1 o _ hx;obtain⟨r1,v,r2,r3⟩:=q6 o tag a hx (by have:=M'.2.2;exact this);refine⟨r1,v, ?_,r3.mono hle⟩;rw[s4 _ (.inl (by omega))];exact r2
  ·have hg:g<=gen:=by omega
   obtain⟨u0,t1,t2,t2',ac2,fr1,t3,t4,t5,t6⟩:=hB.2 g hg;by_cases eb:u0.blk=h.blk
   ·obtain⟨_,ehm⟩:=hG.inj _ _ _ _ _ _ t1 hh eb;subst ehm;rw[q3] at t3;injection t3 with t3;injection t3 with t3a t3b t3c;subst t3a;subst t3c;refine⟨_,ub hg t1,t2,t2',l7,fr,s1,by omega,t5,λo tag a YZ ht=>?_⟩;rcases hc o _ YZ with⟨j,a',e1,e2,e3⟩|⟨hx,c8⟩
    ·injection e3 with e3 e4;omega
    ·have M':=hB.1 o _ hx;obtain⟨r1,v,r2,r3⟩:=t6 o tag a hx ht;refine⟨r1,v, ?_,r3.mono hle⟩;rw[s4 _ (.inl (by omega))];exact r2
   ·refine⟨u0,ub hg t1,t2,t2',ac2,fr1,by rw[s5 _ eb];exact t3,t4,t5,λo tag a YZ ht=>?_⟩;rcases hc o _ YZ with⟨j,a',e1,e2,e3⟩|⟨hx,c8⟩
    ·injection e3 with e3 e4;omega
    ·obtain⟨r1,v,r2,r3⟩:=t6 o tag a hx ht;exact⟨r1,v,r2,r3.mono hle⟩
def G8{b gen lo fl fh len size n:Nat}{c0:T Cell}{new:List AV}{nvs olds rest:List Value}{H:T ABlk}{h:Home}{e2:TypeId}(hG:Good w0 ρ H w)(d4:b+1<2 ^ 64)(hb:H.get b=some (.cells c0 gen lo (lo+len * size) fl fh false e2))(hh:ρ.at_ b gen=some h)(j4:LR ρ new nvs)(hn:new.length=n * size)(ak3:olds.length=len * size)(t8:0<len->h.shift<=lo)(hold:∀j v,olds[j]? =some v->0<len->w.cell? ⟨h.blk,lo-h.shift+j,none⟩=some v){c:T Cell}(hc:∀o x,c.get o=some x->(∃(j:Nat) (a:AV),o=(lo+len * size)+j/\new[j]? =some a/\x= .mk (gen+1) a)∨(c0.get o=some x/\(o<lo+len * size∨lo+len * size+new.length<=o))):
 ρ.le (ρ.put b (gen+1) ⟨w.heap.size,lo,(olds++nvs++rest).length⟩)/\
 Good w0 (ρ.put b (gen+1) ⟨w.heap.size,lo,(olds++nvs++rest).length⟩) (H.set b (.cells c (gen+1) lo (lo+len * size+n * size) fl fh false e2)) (w.drew.alloc (.cells (olds++nvs++rest).toArray e2)):=by
 have hB:=hG.blk _ _ hb
 have Xm:∀k,k<w.heap.size->(w.drew.alloc (.cells (olds++nvs++rest).toArray e2)).heap[k]? =w.heap[k]? :=λk hk=>Below.heap_alloc w.drew _ k hk
 have Yl:nvs.length=n * size:=by rw[j4.1,hn]
 refine hG.fork hb d4 (Kept.of (((Below.refl _ _).drew).alloc hG.below.size _)) (λk hk _=>Xm k hk) (by simp) (λb' g' h' _ g7=>Xm _ (hG.dom _ _ _ g7).1) (by simp) (.inr (aab _)) λhle=>⟨λo x hx=>?_,λg hg=>?_⟩
 ·rcases hc o x hx with⟨j,a,e1,e2,e3⟩|⟨hx,c8⟩
  ·have:j<new.length:=by
    rcases aaf j new.length with h'|h'
    ·exact h'
    ·rw[aak h'] at e2;cases e2
   subst e3;exact⟨by omega,by omega,aab _⟩
  ·have:=hB.1 o x hx;omega
 ·by_cases eg:g=gen+1
  ·subst eg;refine⟨_,Rho.put_at _ _ _ _,λ_=>.new hG.below.size,(λhc=>by cases hc),(olds++nvs++rest).toArray,(0,0), ?_,by simp,λ_=>⟨aab _,λx _ _ h3=>absurd h3 (by simp)⟩,λo tag a YZ ht=>?_⟩
   ·show(w.heap.push _)[w.heap.size]? =_;simp
   rcases hc o _ YZ with⟨j,a',e1,e2',e3⟩|⟨hx,c8⟩
   ·injection e3 with e3 e4;subst e4;have hj:j<new.length:=by
     rcases aaf j new.length with h'|h'
     ·exact h'
     ·rw[aak h'] at e2';cases e2'
    obtain⟨v,hv,hr⟩:=j4.get e2';refine⟨by show lo<=o;omega,v, ?_,hr.mono hle⟩;show(olds++nvs++rest).toArray[o-lo]? =some v;rw[Zu,aaJ,aaG (by omega),aaB (by omega),show o-lo-olds.length=j by omega];exact hv
   ·have M':=hB.1 o _ hx;obtain⟨hm,q1,q2,_,arr,fr,q3,q4,q5,q6⟩:=hB.2 gen (aab _);rw[hh] at q1;injection q1 with q1;subst q1;obtain⟨r1,v,r2,r3⟩:=q6 o tag a hx (by have:=M'.2.2;exact this);refine⟨M'.1,v, ?_,r3.mono hle⟩;have c8:o-lo<olds.length:=by omega
    show(olds++nvs++rest).toArray[o-lo]? =some v;rw[Zu,aaJ,aaB c8];have i4:0<len:=by
     rcases aaR len with e0|e0
     ·subst e0;omega
     ·exact e0
    have:=hold (o-lo) olds[o-lo] (aah c8) i4;have t8:=t8 i4;rw[show lo-h.shift+(o-lo)=o-h.shift by omega] at this;simp [World.cell?,q3,r2] at this;rw[aah c8,this]
  ·have hg:g<=gen:=by omega
   obtain⟨u0,t1,t2,t2',ac2,fr1,t3,t4,t5,t6⟩:=hB.2 g hg;refine⟨u0,ub hg t1,t2,t2',ac2,fr1,by rw[Xm _ (hG.dom _ _ _ t1).1];exact t3,t4,t5,λo tag a YZ ht=>?_⟩;rcases hc o _ YZ with⟨j,a',e1,e2,e3⟩|⟨hx,c8⟩
   ·injection e3 with e3 e4;omega
   ·obtain⟨r1,v,r2,r3⟩:=t6 o tag a hx ht;exact⟨r1,v,r2,r3.mono hle⟩
def kg(f:Nat->List AV)(len size:Nat)(new:List AV):Nat->List AV:=λi=>if i<len then f i else(new.drop ((i-len) * size)).take size
def mL{f:Nat->List AV}{len size i:Nat}{new:List AV}(h:i<len):kg f len size new i=f i:=by unfold kg;rw[if_pos h]
def jz{f:Nat->List AV}{len size i:Nat}{new:List AV}(h:¬i<len):kg f len size new i=(new.drop ((i-len) * size)).take size:=by unfold kg;rw[if_neg h]
def D7{f:Nat->List AV}{len size n i:Nat}{new:List AV}(h:¬i<len)(hi:i<len+n)(hn:new.length=n * size):(kg f len size new i).length=size:=by
 rw[jz h,aar,aat,hn];have:(i-len) * size+size<=n * size:=by rw[←aaL];exact aay _ (by omega)
 omega
def D8{f:Nat->List AV}{len size i j:Nat}{new:List AV}{a:AV}(h:¬i<len)(ha:(kg f len size new i)[j]? =some a):j<size/\new[(i-len) * size+j]? =some a:=by
 rw[jz h] at ha;have hj:j<size:=by
  rcases aaf j size with h'|h'
  ·exact h'
  ·rw[aak (by rw[aar];omega)] at ha;cases ha
 rw[aav hj,aax] at ha;exact⟨hj,ha⟩
def pj{f:Nat->List AV}{len size n:Nat}{new:List AV}{nvs:List Value}{arr:Array Value}(j4:LR ρ new nvs)(hn:new.length=n * size)(h1:∀i,i<len->(f i).length=size/\∀j a,(f i)[j]? =some a->∃u,arr[i * size+j]? =some u/\VR ρ a u)(h2:∀j v,nvs[j]? =some v->arr[len * size+j]? =some v):
 ∀i,i<len+n->(kg f len size new i).length=size/\∀j a,(kg f len size new i)[j]? =some a->∃u,arr[i * size+j]? =some u/\VR ρ a u:=by
 intro i hi
 by_cases h:i<len
 ·rw[mL h];exact h1 i h
 ·refine⟨D7 h hi hn,λj a ha=>?_⟩;obtain⟨hj,ha⟩:=D8 h ha;obtain⟨u,hu,hr⟩:=j4.get ha;refine⟨u, ?_,hr⟩;have:=h2 _ _ hu;rw[←abu, ←aaz,show len+(i-len)=i by omega] at this;exact this
def G9(P:Program)(w0:World)(ρ:Rho)(w:World)(H:T ABlk)(b:Nat)(x:ABlk)(a:AV)(s:Sem Value):Prop:=∃ρ' v' w',Good w0 ρ' (H.set b x) w'/\ρ.le ρ'/\VR ρ' a v'/\s.run P w= .ok v' w'
def rY{H:T ABlk}{tys:Array TypeId}{ts tx e ty:TypeId}{dx:TypeDesc}{i:TypeInfo}{z:Value}{b g len n:Nat}{l:List AV}{cs:List Value}{v u:Value}{c0 c1:Ct}(hG:Good w0 ρ H w)(hx:VR ρ (.gsl b g len i.size) v)(h0:tys[0]? =some ts)(h1:tys[1]? =some tx)(ht:P.underlying ts=some (.slice e))(z':P.underlying tx=some dx)(Wu:∀j,dx≠ .int j)(hi:P.info? e=some i)(W0:i.bytes<=1000)(Yo:i.zero=some z)(XM:z.cells.size=i.size)(hlen:∀w:World,(Builtin.lenOf u).run P w= .ok n w)(hn:n<=1000000)(i4:0<n)(hL:LR ρ l cs)(x8:cs.length=n * i.size)(i6:∀w2:World,w2.heap=w.heap->(Builtin.firstCells i.size n u).run P w2= .ok cs.toArray w2)(p9:H.get b=some (.grow c0 g e))(d4:b+1<2 ^ 64)(k2:c0.es=i.size)(k4:l.length=n * i.size)(p8:∀a∈l,eK a=true)(k6:c0.len=len)(k7:len<=1000000000)(a1:c1.len=c0.len+n)(a2:c1.es=c0.es)(ato:∀(ρ2:Rho) (i2:Nat),i2<c0.len+n->∀vs,LR ρ2 (kg c0.row c0.len c0.es l i2) vs->LR ρ2 (c1.row i2) vs):G9 P w0 ρ w H b (.grow c1 (g+1) e) (.gsl b (g+1) (len+n) i.size) (Builtin.append_ tys ty #[v,u]):=by
 obtain⟨f,hf⟩:∃f,f=c0.row:=⟨_,rfl⟩
 obtain⟨m,hm9⟩:∃m,m=c0.len:=⟨_,rfl⟩
 have WJ:∀ii,(f ii).length=i.size:=λii=>by rw[hf,c0.row_len,k2]
 rw[←hf, ←hm9,k2] at ato
 rw[←hm9] at a1 k6
 rw[k2] at a2
 subst k6
 have hB:=hG.blk _ _ p9
 have hnb:n * i.bytes<=1000000 * 1000:=ZX hn W0
 have fresh:∀(base:Option Addr) (c:Nat) (olds:List Value),v= .slice base m c->c<m+n->Builtin.nextslicecap (m+n) c * i.bytes<=281474976710656->olds.length=m * i.size->
  (∀ii,ii<m->(f ii).length=i.size/\∀j a,(f ii)[j]? =some a->∃uu,olds[ii * i.size+j]? =some uu/\VR ρ a uu)->(Builtin.firstCells i.size m (.slice base m c)).run P w.drew= .ok olds.toArray w.drew->G9 P w0 ρ w H b (.grow c1 (g+1) e) (.gsl b (g+1) (m+n) i.size) (Builtin.append_ tys ty #[v,u]):=by
  intro base c olds ev c8 w7 hol hoc hof
  subst ev
  have b7:=c_ (P:=P) (w:=w) (ty:=ty) h0 h1 ht z' Wu hi Yo (hlen w) c8 (by omega) w7 hof (i6 _ rfl)
  have W3:=grownCap_ge w (m+n) c e
  have Xm:∀k,k<w.heap.size->(w.drew.alloc (.cells (olds++cs++(Builtin.zeroCells z.cells (grownCap w (m+n) c e-(m+n))).toList).toArray e)).heap[k]? =w.heap[k]? :=λk hk=>Below.heap_alloc w.drew _ k hk
  have m8:(olds++cs++(Builtin.zeroCells z.cells (grownCap w (m+n) c e-(m+n))).toList).length=grownCap w (m+n) c e * i.size:=by rw[aal,aal,hol,x8,aaI,size_zeroCells,XM, ←aaz, ←aaz];congr 1;omega
  obtain⟨hle,B'⟩:=hG.forkX (w':=w.drew.alloc (.cells (olds++cs++(Builtin.zeroCells z.cells (grownCap w (m+n) c e-(m+n))).toList).toArray e)) (x:=.grow c1 (g+1) e) (gen:=g)
   (h2:=⟨w.heap.size,0,grownCap w (m+n) c e * i.size⟩) p9 (λg' h'=>h') (λg' h'=>h') d4 (Kept.of (((Below.refl _ _).drew).alloc hG.below.size _)) (λk hk _=>Xm k hk) (by simp) (λb' g' h' _ g7=>Xm _ (hG.dom _ _ _ g7).1) (by simp) (.inr (aab _)) (λhle=>by
    refine .inr ⟨_,Rho.put_at _ _ _ _,rfl,.new hG.below.size,(olds++cs++(Builtin.zeroCells z.cells (grownCap w (m+n) c e-(m+n))).toList).toArray,(0,0), ?_,by rw[List.size_toArray];exact m8, ?_,λx _ _ h3=>absurd h3 (by simp), ?_⟩
    ·show(w.heap.push _)[w.heap.size]? =_;simp
    ·rw[a1,a2];exact aay _ W3
    ·intro ii YO;rw[a1] at YO;rw[a2];have:=pj (ρ:=ρ) (f:=f) (len:=m) (arr:=(olds++cs++(Builtin.zeroCells z.cells (grownCap w (m+n) c e-(m+n))).toList).toArray) hL k4 (λi2 X7=>⟨(hoc i2 X7).1,λj a ha=>by
      obtain⟨uu,u1,u2⟩:=(hoc i2 X7).2 j a ha;refine⟨uu, ?_,u2⟩;have Zp:i2 * i.size+j<olds.length:=by
       rcases aaf (i2 * i.size+j) olds.length with h'|h'
       ·exact h'
       ·rw[aak h'] at u1;cases u1
      rw[Zu,aaJ,aaB Zp];exact u1⟩) (λj vv hv=>by
      have Zp:j<cs.length:=by
       rcases aaf j cs.length with h'|h'
       ·exact h'
       ·rw[aak h'] at hv;cases hv
      rw[Zu,aaJ,aaG (by omega),aaB (by omega),show m * i.size+j-olds.length=j by omega];exact hv) ii YO
     exact lu (λj a ha=>by obtain⟨uu,u1,u2⟩:=this.2 j a ha;exact⟨uu,u1,u2.mono hle⟩) (ato _ ii YO))
  refine⟨_,_,_,B',hle,.gsl b (g+1) (m+n) i.size _ (grownCap w (m+n) c e) (by omega) (Rho.put_at _ _ _ _) rfl W3 (aab _),b7⟩
 cases hx with
 |gnil _ _ _=>
  refine fresh none 0 [] rfl (by omega) (by rw[aam,nextslicecap_zero i4];omega) (by simp) (λii YO=>by omega) (by simp [Builtin.firstCells])
 |gempty _ _ _ a=>
  refine fresh (some a) 0 [] rfl (by omega) (by rw[aam,nextslicecap_zero i4];omega) (by simp) (λii YO=>by omega) (by simp [Builtin.firstCells,loadCells,loadCellsFrom])
 |gsl _ _ _ _ hm c hm0 hh w8 hc hz=>
  rcases hB with hB|⟨u0,q1,q2,q3,arr,fr,q4,q5,q6,q7,q8⟩
  ·omega
  rw[←hf, ←hm9,k2] at q8
  rw[←hm9,k2] at q6
  rw[hh] at q1;injection q1 with q1;subst q1
  rcases aaf c (m+n) with c8|q9
  ·have hmc:m * i.size<=c * i.size:=aay _ hc;refine fresh (some ⟨hm.blk,0,none⟩) c (arr.toList.take (m * i.size)) rfl c8 ?_ (by rw[aar,aaI];omega) (λii YO=>⟨WJ ii,λj a ha=>?_⟩) ?_
   ·have h1:Builtin.nextslicecap (m+n) c<=2 * (m+n):=nextslicecap_le c8;have h2:=ZX h1 W0;omega
   ·obtain⟨uu,u1,u2⟩:=q8 ii YO j a ha;refine⟨uu, ?_,u2⟩;have hj:j<i.size:=by
     have:=WJ ii;rcases aaf j (f ii).length with h'|h'
     ·omega
     ·rw[aak h'] at ha;cases ha
    have:ii * i.size+i.size<=m * i.size:=by rw[←aaL];exact aay _ YO
    rw[aav (by omega)];simpa using u1
   ·refine run_firstCells_some _ i.size m _ m c _ (by rw[aar,aaI];omega) λj vv hj=>?_;rw[bz];rw[aaV] at hj;split at hj
    ·show w.cell? _=_;rw[aam];simp [World.cell?,q4];simpa using hj
    ·cases hj
  ·have hmul:(m+n) * i.size<=c * i.size:=aay _ q9;rw[aaz] at hmul;have WU:m * i.size+cs.length<=arr.size:=by rw[x8];omega
   obtain⟨l7,s1,s2,s3,s4,s5,s6,s7⟩:=dJ hm.blk cs (m * i.size) w arr e fr q4 WU;have l8:=run_storeCells_cells (P:=P) hm.blk (m * i.size) cs 0 w (λj hj=>by
    simp only [World.cell?,q4]
    simp only [Zl,Bool.false_eq_true,if_false,aas]
    rw[aaK (by omega)];rfl) (λj hj=>by
    simp only [World.frozen?,q4,aas]
    cases hx:(decide (fr.1<=m * i.size+j) && decide (m * i.size+j<fr.2)) with
    |false=>rfl
    |true=>simp only [Bool.and_eq_true,decide_eq_true_eq] at hx;exact(q7 _ (by omega) hx.1 hx.2).elim) (hL.ones p8)
   rw[aas] at l8;have b7:=dD (P:=P) (w:=w) (ty:=ty) h0 h1 ht z' Wu hi (hlen w) q9 (i6 w rfl) (a:=⟨hm.blk,0,none⟩) (by rw[bz,aam];exact l8);obtain⟨hle,B'⟩:=hG.forkX (w':=w.setCells hm.blk (m * i.size) cs) (x:=.grow c1 (g+1) e) (gen:=g) (h2:=hm) p9 (λg' h'=>h') (λg' h'=>h') d4
    (Kept.of_set (s7 0 (aan _)) s5 q3) (λk _ hk=>s5 k (λe=>hk g hm hh e.symm)) (by omega) (λb' g' h' j0 g7=>s5 _ λe'=>j0 (hG.inj _ _ _ _ _ _ g7 hh e').1) (by have:=(hG.dom _ _ _ hh).1;omega) (.inl ⟨g,hh⟩) (λhle=>by
     refine .inr ⟨_,Rho.put_at _ _ _ _,q2,q3,l7,fr,s1,by omega,by rw[a1,a2,aaz];omega,q7, ?_⟩;intro ii YO;rw[a1] at YO;rw[a2];have:=pj (ρ:=ρ) (f:=f) (len:=m) (arr:=l7) hL k4 (λi2 X7=>⟨WJ i2,λj a ha=>by
      obtain⟨uu,u1,u2⟩:=q8 i2 X7 j a ha;refine⟨uu, ?_,u2⟩;have hj:j<i.size:=by
       have:=WJ i2;rcases aaf j (f i2).length with h'|h'
       ·omega
       ·rw[aak h'] at ha;cases ha
      have:i2 * i.size+i.size<=m * i.size:=by rw[←aaL];exact aay _ X7
      rw[s4 _ (.inl (by omega))];exact u1⟩) (λj vv hv=>by
      have Zp:j<cs.length:=by
       rcases aaf j cs.length with h'|h'
       ·exact h'
       ·rw[aak h'] at hv;cases hv
      rw[s3 j Zp];exact hv) ii YO
     exact lu (λj a ha=>by obtain⟨uu,u1,u2⟩:=this.2 j a ha;exact⟨uu,u1,u2.mono hle⟩) (ato _ ii YO))
   exact⟨_,_,_,B',hle,.gsl b (g+1) (m+n) i.size hm c (by omega) (Rho.put_at _ _ _ _) w8 q9 hz,b7⟩
def wG{tys:Array TypeId}{ts tx e ty:TypeId}{dx:TypeDesc}{i:TypeInfo}{z:Value}{b g len n:Nat}{l:List AV}{cs:List Value}{v u:Value}(hS:SI σ)(hG:Good w0 ρ σ.h w)(hx:VR ρ (.gsl b g len i.size) v)(h0:tys[0]? =some ts)(h1:tys[1]? =some tx)(ht:P.underlying ts=some (.slice e))(z':P.underlying tx=some dx)(Wu:∀j,dx≠ .int j)(hi:P.info? e=some i)(W0:i.bytes<=1000)(Yo:i.zero=some z)(XM:z.cells.size=i.size)(hlen:∀w:World,(Builtin.lenOf u).run P w= .ok n w)(hn:n<=1000000)(i4:0<n)(hL:LR ρ l cs)(x8:cs.length=n * i.size)(i6:∀w2:World,w2.heap=w.heap->(Builtin.firstCells i.size n u).run P w2= .ok cs.toArray w2)(h:run (Gw e b g len i.size n l k) σ K=true):Res P w0 ρ w k K (Builtin.append_ tys ty #[v,u]):=by
 have d4:=cy hS h
 obtain⟨q,c7,hq,e1,b6,h⟩:=aT hS h
 have b9:Good w0 ρ c7.h w:=by rw[e1];exact hG
 cases q with
 |grow c0 gen t2=>
  obtain⟨k1,z1⟩:=aj h
  obtain⟨k2,z2⟩:=aj z1
  obtain⟨k3,z3⟩:=aj z2
  obtain⟨k4,z4⟩:=aj z3
  obtain⟨k5,z5⟩:=aj z4
  cases YP:c0.app l n with
  |none=>rw[YP] at z5;exact(ac z5).elim
  |some r0=>
  obtain⟨c1,pr⟩:=r0
  rw[YP] at z5
  obtain⟨⟨k6,k7,kp⟩,z6⟩:=aJ z5
  obtain⟨x0,d5,A',e2,d8,_,z7⟩:=cr b6 z6
  clear h z1 z2 z3 z4 z5 z6
  have k1:=aF k1
  have k2:=aF k2
  have k3:=aF k3
  have k4:=aF k4
  have p8:∀a∈l,eK a=true:=λa ha=>List.all_eq_true.1 k5 a ha
  obtain⟨a1,a2,a3,a4⟩:=Pr YP kp (by rw[k4,k2])
  have ato:∀(ρ2:Rho) (i2:Nat),i2<c0.len+n->∀vs,LR ρ2 (kg c0.row c0.len c0.es l i2) vs->LR ρ2 (c1.row i2) vs:=λρ2 i2 X7 vs l6=>by
   by_cases h':i2<c0.len
   ·rw[mL h'] at l6;rw[a3 i2 h'];exact l6
   ·rw[jz h'] at l6;exact a4 i2 (by omega) X7 ρ2 vs l6
  subst k1;subst k3
  have p9:c7.h.get b=some (.grow c0 g t2):=by rw[e1];exact hq
  obtain⟨ρ',v',w',g1,g2,g3,g4⟩:=rY (P:=P) (ty:=ty) b9 hx h0 h1 ht z' Wu hi W0 Yo XM hlen hn i4 hL x8 i6 p9 d4 k2 (by rw[k4]) p8 k6 k7 a1 a2 ato
  exact⟨_,d5,ρ',v',w',z7,d8,by rw[e2];exact g1,g2,g3,g4⟩
 |_=>exact(ac h).elim
def G_{b:Nat}{f g:ABlk->Tr}(hfg:∀q a8,run (f q) a8 K=true->run (g q) a8 K=true)(h:run (.rd b f) σ K=true):run (.rd b g) σ K=true:=by
 cases σ with
 |mk H n fs tc w=>
  rw[fY] at h⊢;split at h;case isFalse=>cases h
  rename_i hb;rw[if_pos hb];split at h
  ·cases h
  ·exact hfg _ _ h
def bQ(t:List Nat):List AV:=t.map λn:Nat=>AV.sI .u8 (Int.ofNat n)
def nw(t:List Nat):List Int:=t.map λn:Nat=>Int.ofNat n
def zU(t:List Nat):eZ (bQ t)=some (nw t)/\aN (nw t)=t/\bA (nw t):=by
 induction t with
 |nil=>exact⟨rfl,rfl,trivial⟩
 |cons a t ih=>
  obtain⟨h1,h2,h3⟩:=ih;refine⟨?_, ?_, ?_⟩
  ·show eZ (AV.sI .u8 (Int.ofNat a)::bQ t)=some (Int.ofNat a::nw t);simp only [eZ,bD,h1]
  ·show(Int.ofNat a).toNat::aN (nw t)=a::t;rw[h2];rfl
  ·exact⟨Int.natCast_nonneg _,h3⟩
def wH{t:List Nat}{y:AV}{u:Value}(hG:Good w0 ρ σ.h w)(hy:VR ρ y u)(h:zr y=some t):
 (∀w:World,(Builtin.lenOf u).run P w= .ok t.length w)/\∃cs:List Value,LR ρ (bQ t) cs/\cs.length=t.length/\∀m,m<=t.length->∀w2:World,w2.heap=w.heap->(Builtin.firstCells 1 m u).run P w2= .ok (cs.take m).toArray w2:=by
 cases hy with
 |sS s=>
  injection h with h
  subst h
  have hn:(bytesOf s).length=s.size:=by unfold bytesOf;rw[aaF];rfl
  have hL:=gY ρ s
  refine⟨λw=>by rw[hn];rfl,s.data.toList.map λb=>Value.int .u8 b.toNat,⟨by simp [bQ,bytesOf],λi a v ha hv=>?_⟩, ?_,λm hm w2 _=>?_⟩
  ·unfold bQ bytesOf at ha
   rw[aaW,aaE] at ha
   rw[aaE] at hv
   cases hs:s.data.toList[i]? with
   |none=>rw[hs] at ha;cases ha
   |some b=>rw[hs] at ha hv;injection ha with ha;injection hv with hv;subst ha;subst hv;exact .sI _ _
  ·rw[hn,aaF];rfl
  ·simp only [Builtin.firstCells,aac];congr 1;apply Array.ext';simp [ByteArray.data_extract,abE,List.map_take]
 |cv c blk off cp arr ty hf hc hb r=>
  cases c with
  |rows m l=>cases h
  |bytes t'=>
  injection h with h
  subst h
  have hb:off+t'.length<=arr.size:=by simpa [Ct.len,Ct.es] using hb
  refine⟨λw=>rfl,((arr.toList.drop off).take t'.length),⟨by simp [bQ];omega,λi a v ha hv=>?_⟩,by simp;omega,λm hm w2 Yn=>?_⟩
  ·have hi:i<t'.length:=by
    rcases aaf i t'.length with h'|h'
    ·exact h'
    ·rw[aak (by simpa [bQ] using h')] at ha;cases ha
   unfold bQ at ha;rw[aaE,aah hi] at ha;injection ha with ha;rw[aav hi,aax] at hv;refine r i 0 a v hi ?_ ?_
   ·show [AV.sI .u8 ((t'.getD i 0:Nat):Int)][0]? =some a;rw[aai,aah hi, ←ha];rfl
   ·show arr[off+i * 1+0]? =some v;rw[aaC,aas, ←hv];simp
  ·obtain⟨⟨fr,hw⟩,_⟩:=hG.frz _ _ _ hf;have hm:m<=t'.length:=hm;refine run_firstCells_some w2 1 _ _ _ _ _ (by simp;omega) λj v hj=>?_;have hjm:j<m:=by
    rcases aaf j m with h'|h'
    ·exact h'
    ·rw[aak (by simp;omega)] at hj;cases hj
   have Zo:j<t'.length:=by omega
   rw[aav hjm,aav Zo,aax] at hj;have e1:(⟨blk,off,none⟩:Addr).add j=⟨blk,off+j,none⟩:=by have:=cN (h:=⟨blk,0,0⟩) (o:=off) (n:=j) (aan _);simpa using this
   rw[e1];simp only [World.cell?,Yn,hw];rw[←hj];simp
 |cvnil c h0=>
  cases c with
  |rows m l=>cases h
  |bytes t'=>
  injection h with h
  subst h
  have h0:t'= []:=List.length_eq_zero_iff.1 h0
  subst h0
  exact⟨λ_=>rfl,[],LR.nil ρ,rfl,λm hm _ _=>by simp [Builtin.firstCells]⟩
 |cvempty c a h0=>
  cases c with
  |rows m l=>cases h
  |bytes t'=>
  injection h with h
  subst h
  have h0:t'= []:=List.length_eq_zero_iff.1 h0
  subst h0
  exact⟨λ_=>rfl,[],LR.nil ρ,rfl,λm hm _ _=>by
   have:m=0:=by simpa using hm
   subst this;simp [Builtin.firstCells,loadCells,loadCellsFrom]⟩
 |_=>cases h
def Lm{t:List Nat}{y:AV}{u:Value}(hG:Good w0 ρ σ.h w)(hy:VR ρ y u)(h:zr y=some t):
 (∀w:World,(Builtin.lenOf u).run P w= .ok t.length w)/\∃cs:List Value,LR ρ (bQ t) cs/\cs.length=t.length/\∀w2:World,w2.heap=w.heap->(Builtin.firstCells 1 t.length u).run P w2= .ok cs.toArray w2:=by
 obtain⟨h1,cs,h2,h3,h4⟩:=wH (P:=P) hG hy h
 refine⟨h1,cs,h2,h3,λw2 hw=>?_⟩
 rw[h4 _ (aab _) w2 hw, ←h3,abw]
def Pu(P:Program)(ρ:Rho)(w:World)(u:Value)(t:List Nat):Prop:=(∀w:World,(Builtin.lenOf u).run P w= .ok t.length w)/\∃cs:List Value,LR ρ (bQ t) cs/\cs.length=t.length/\∀w2:World,w2.heap=w.heap->(Builtin.firstCells 1 t.length u).run P w2= .ok cs.toArray w2
def Ln{t:List Nat}{b g n ty:Nat}{u:Value}(hG:Good w0 ρ σ.h w)(hq:σ.h.get b=some (.grow (.bytes t) g ty))(hn:t.length=n)(hy:VR ρ (.gsl b g n 1) u):Pu P ρ w u t:=by
 cases hy with
 |gnil _ _ _=>have h0:t= []:=List.length_eq_zero_iff.1 hn;subst h0;exact⟨λ_=>rfl,[],LR.nil ρ,rfl,λ_ _=>by simp [Builtin.firstCells]⟩
 |gempty _ _ _ a=>have h0:t= []:=List.length_eq_zero_iff.1 hn;subst h0;exact⟨λ_=>rfl,[],LR.nil ρ,rfl,λ_ _=>by simp [Builtin.firstCells,loadCells,loadCellsFrom]⟩
 |gsl _ _ _ _ hm c Yp hh w8 W2 hz=>
  subst hn;rcases hG.blk _ _ hq with hB|⟨u0,q1,q2,q3,arr,fr,q4,q5,q6,q7,q8⟩
  ·have hB:t.length=0:=hB;omega
  ·rw[hh] at q1;injection q1 with q1;subst q1;have q6:t.length * 1<=hm.size:=q6;have hb:t.length<=arr.size:=by omega
   refine⟨λw=>rfl,(arr.toList.take t.length),⟨by simp [bQ];omega,λi a v ha hv=>?_⟩,by simp;omega,λw2 Yn=>?_⟩
   ·have hi:i<t.length:=by
     rcases aaf i t.length with h'|h'
     ·exact h'
     ·rw[aak (by simpa [bQ] using h')] at ha;cases ha
    unfold bQ at ha;rw[aaE,aah hi] at ha;injection ha with ha;rw[aav hi] at hv;obtain⟨uu,u1,u2⟩:=q8 i hi 0 a (by show [AV.sI .u8 ((t.getD i 0:Nat):Int)][0]? =some a;rw[aai,aah hi, ←ha];rfl);have u1:arr[i * 1+0]? =some uu:=u1;rw[aaC,aas] at u1;rw[aaP,u1] at hv;injection hv with hv;rw[←hv];exact u2
   ·refine run_firstCells_some w2 1 _ _ _ _ _ (by simp;omega) λj v hj=>?_;have hjm:j<t.length:=by
     rcases aaf j t.length with h'|h'
     ·exact h'
     ·rw[aak (by simp;omega)] at hj;cases hj
    rw[aav hjm] at hj;have e1:(⟨hm.blk,0,none⟩:Addr).add j=⟨hm.blk,0+j,none⟩:=by have:=cN (h:=⟨hm.blk,0,0⟩) (o:=0) (n:=j) (aan _);simpa using this
    rw[e1];simp only [World.cell?,Yn,q4];rw[←hj];simp
def Ha{tys:Array TypeId}{ts tx e ty:TypeId}{dx:TypeDesc}{i:TypeInfo}{zv:Value}{b g len:Nat}{t:List Nat}{v u:Value}(hS:SI σ)(hG:Good w0 ρ σ.h w)(hx:VR ρ (.gsl b g len 1) v)(hu:Pu P ρ w u t)(h0:tys[0]? =some ts)(h1:tys[1]? =some tx)(ht:P.underlying ts=some (.slice e))(z':P.underlying tx=some dx)(Wu:∀j,dx≠ .int j)(hi:P.info? e=some i)(W0:i.bytes<=1000)(Yo:i.zero=some zv)(XM:zv.cells.size=1)(XN:i.size=1)(h:run (N8 e b g len t k) σ K=true):Res P w0 ρ w k K (Builtin.append_ tys ty #[v,u]):=by
 obtain⟨hlen,cs,hL,x8,i6⟩:=hu
 rcases aaR t.length with X6|i4
 ·have d4:=cy hS h
  obtain⟨q,c7,hq,e1,b6,h⟩:=aT hS h
  cases q with
  |grow c gen XE=>
   cases c with
   |rows m l=>exact(ac h).elim
   |bytes l0=>
   obtain⟨k1,z1⟩:=aj h
   obtain⟨k2,z2⟩:=aj z1
   obtain⟨k3,z3⟩:=aJ z2
   obtain⟨x0,d5,A',e2,d8,_,z4⟩:=cr b6 z3
   clear h z1 z2 z3
   have k1:=aF k1
   have k2:=aF k2
   subst k1;subst k2
   have ht0:t= []:=List.length_eq_zero_iff.1 X6
   subst ht0
   have b9:Good w0 ρ c7.h w:=by rw[e1];exact hG
   have p9:c7.h.get b=some (.grow (.bytes l0) g XE):=by rw[e1];exact hq
   have el:l0++ []=l0:=abo l0
   rw[el] at e2
   have r9:∀w:World,(Builtin.lenOf u).run P w= .ok 0 w:=hlen
   cases hx with
   |gsl _ _ _ _ hm c Yp hh w8 W2 hz=>
    have hB:=b9.blk _ _ p9;obtain⟨hle,B'⟩:=b9.forkX (w':=w) (x:=.grow (.bytes l0) (g+1) XE) (gen:=g) (h2:=hm) p9 (λg' h'=>h') (λg' h'=>h') d4 (Kept.refl _ _ _) (λ_ _ _=>rfl) (aab _) (λ_ _ _ _ _=>rfl) (b9.dom _ _ _ hh).1 (.inl ⟨g,hh⟩) (λhle=>by
     rcases hB with hB|⟨u0,q1,q2,q3,arr,fr,q4,q5,q6,q7,q8⟩
     ·exact .inl hB
     ·rw[hh] at q1;injection q1 with q1;subst q1;exact .inr ⟨hm,Rho.put_at _ _ _ _,q2,q3.mono hle,arr,fr,q4,q5,q6,q7,λi hi j a ha=>by obtain⟨uu,u1,u2⟩:=q8 i hi j a ha;exact⟨uu,u1,u2.mono hle⟩⟩)
    exact⟨_,d5,_,_,w,z4,d8,by rw[e2];exact B',hle,.gsl b (g+1) (len+0) 1 hm c Yp (Rho.put_at _ _ _ _) w8 W2 hz,aP h0 h1 ht z' Wu hi (r9 _) W2 (aQ (r9 w))⟩
   |gnil _ _ _=>exact .plain z4 d8 (by rw[e2];exact b9.none_turn p9 d4 k3.1 (λg' h'=>abF h') (λh=>h)) (.gnil _ _ _) (aP h0 h1 ht z' Wu hi (r9 _) (aab _) (aQ (r9 w)))
   |gempty _ _ _ a=>exact .plain z4 d8 (by rw[e2];exact b9.none_turn p9 d4 k3.1 (λg' h'=>abF h') (λh=>h)) (.gempty _ _ _ a) (aP h0 h1 ht z' Wu hi (r9 _) (aab _) (aQ (r9 w)))
  |_=>exact(ac h).elim
 ·have h2:run (Gw e b g len 1 t.length (bQ t) k) σ K=true/\t.length<=1000000:=by
   refine⟨G_ (λq a8 h=>?_) h, ?_⟩
   ·cases q with
    |grow c gen XE=>
     cases c with
     |rows m l=>exact(ac h).elim
     |bytes l0=>
     obtain⟨k1,h⟩:=aj h
     obtain⟨k2,h⟩:=aj h
     obtain⟨k3,h⟩:=aJ h
     obtain⟨p1,p2,p3⟩:=zU t
     show run (aa (Nat.beq g gen) (aa (Nat.beq 1 1) (aa (Nat.beq XE e) (aa (Nat.beq (bQ t).length (t.length * 1)) (aa ((bQ t).all eK) _ .fail) .fail) .fail) .fail) .fail) a8 K=true
     have q1:Nat.beq (bQ t).length (t.length * 1)=true:=by rw[Nat.beq_eq];simp [bQ]
     have q2:(bQ t).all eK=true:=by unfold bQ;rw[List.all_map,abj];intro _ _;rfl
     have q3:Nat.beq (nw t).length t.length=true:=by rw[Nat.beq_eq];simp [nw]
     rw[k1,k2,q1,q2]
     have q4:Ct.app (.bytes l0) (bQ t) t.length=some (.bytes (l0++t),bA (nw t)):=by simp only [Ct.app,p1,p2,q3];rfl
     show run (match Ct.app (.bytes l0) (bQ t) t.length with
      |some (c',p)=>Tr.req ((Ct.bytes l0).len=len/\len<=1000000000/\p) (.wr b (.grow c' (gen+1) XE) (k (.gsl b (gen+1) (len+t.length) 1)))
      |none=>.fail) a8 K=true
     rw[q4]
     show run (Tr.req _ _) a8 K=true
     rw[dO _ _ _ ⟨k3.1,k3.2.1,p3⟩]
     exact h
    |_=>exact(ac h).elim
   ·obtain⟨q,c7,_,_,_,h⟩:=aT hS h
    cases q with
    |grow c gen XE=>
     cases c with
     |rows m l=>exact(ac h).elim
     |bytes l0=>
     obtain⟨k1,h⟩:=aj h
     obtain⟨k2,h⟩:=aj h
     obtain⟨k3,h⟩:=aJ h
     exact k3.2.2
    |_=>exact(ac h).elim
  rw[←XN] at h2 i6 hx;exact wG (ty:=ty) hS hG hx h0 h1 ht z' Wu hi W0 Yo (XM.trans XN.symm) hlen h2.2 i4 hL (by rw[x8,XN,aaC]) i6 h2.1
def kG(d:Ct):Nat->List AV
 |0=>[]
 |n+1=>kG d n++d.row n
def cz(d:Ct):∀n,(kG d n).length=n * d.es
 |0=>by simp [kG]
 |n+1=>by rw[kG,aal,cz d n,d.row_len,aaL]
def BN(d:Ct){q:Nat}{a:AV}:∀n,(kG d n)[q]? =some a->∃i j,i<n/\q=i * d.es+j/\(d.row i)[j]? =some a
 |0,h=>by simp [kG] at h
 |n+1,h=>by
  rcases aaf q (n * d.es) with h'|h'
  ·rw[kG,aaB (by rw[cz];exact h')] at h;obtain⟨i,j,h1,h2⟩:=BN d n h;exact⟨i,j,by omega,h2⟩
  ·rw[kG,aaG (by rw[cz];exact h'),cz] at h;exact⟨n,q-n * d.es,by omega,by omega,h⟩
def wI(d:Ct):∀n i,i<n->((kG d n).drop (i * d.es)).take d.es=d.row i
 |0,_,h=>by omega
 |n+1,i,h=>by
  rcases aaf i n with h'|h'
  ·have hm:i * d.es+d.es<=n * d.es:=by rw[←aaL];exact aay _ h'
   rw[kG,abG (by rw[cz];omega),abs (by rw[aat,cz];omega),wI d n i h']
  ·have:i=n:=by omega
   subst this;rw[kG,abG (by rw[cz];omega),Zw (by rw[cz];omega),List.nil_append,abt (by rw[d.row_len];omega)]
def pk:∀(g:G) (n i:Nat),∀a∈kr g n i,eK a=true
 |_,0,_,_,h=>by cases h
 |g,n+1,i,a,h=>by
  rcases List.mem_cons.1 h with h|h
  ·subst h;rfl
  ·exact pk g n (i+1) a h
def pm:∀(xs:List Sc) (g:G) (q:Nat),∀a∈aV xs g q,eK a=true
 | [],_,_,_,h=>by cases h
 |x::xs,g,q,a,h=>by
  rcases List.mem_append.1 h with h|h
  ·cases x <;> simp [eJ] at h;case h n=>exact pk _ _ _ a h
   all_goals (subst h;rfl)
  ·exact pm xs g (q+1) a h
def wJ(m:Nat)(l:List G):∀n,∀a∈kG (.rows m l) n,eK a=true
 |0,a,h=>by cases h
 |n+1,a,h=>by
  rcases List.mem_append.1 h with h|h
  ·exact wJ m l n a h
  ·exact pm _ _ _ a h
def wK(P:Program)(ρ:Rho)(w:World)(u:Value)(d:Ct):Prop:=(∀w:World,(Builtin.lenOf u).run P w= .ok d.len w)/\∃cs:List Value,LR ρ (kG d d.len) cs/\cs.length=d.len * d.es/\∀w2:World,w2.heap=w.heap->(Builtin.firstCells d.es d.len u).run P w2= .ok cs.toArray w2
def BO{d:Ct}{blk off cp:Nat}{arr:Array Value}{ty:TypeId}{fr:Nat×Nat}(hw:w.heap[blk]? =some (.cells arr ty fr))(hb:off+d.len * d.es<=arr.size)(r:∀i j a,i<d.len->(d.row i)[j]? =some a->∃u,arr[off+i * d.es+j]? =some u/\VR ρ a u):wK P ρ w (.slice (some ⟨blk,off,none⟩) d.len cp) d:=by
 have x8:((arr.toList.drop off).take (d.len * d.es)).length=d.len * d.es:=by rw[aar,aat,aaI];omega
 refine⟨λw=>rfl,(arr.toList.drop off).take (d.len * d.es),⟨by rw[x8,cz],λq a v ha hv=>?_⟩,x8,λw2 Yn=>?_⟩
 ·obtain⟨i,j,h1,h2,h3⟩:=BN d _ ha;obtain⟨u,u1,u2⟩:=r i j a h1 h3;have hq:q<d.len * d.es:=by
   rcases aaf q (d.len * d.es) with h'|h'
   ·exact h'
   ·rw[aak (by rw[cz];exact h')] at ha;cases ha
  rw[aav hq,aax,aaP,h2, ←abu,u1] at hv;injection hv with hv;rw[←hv];exact u2
 ·refine run_firstCells_some w2 d.es d.len _ _ _ _ x8 λj v hj=>?_;have Zo:j<d.len * d.es:=by
   rcases aaf j (d.len * d.es) with h'|h'
   ·exact h'
   ·rw[aak (by rw[x8];exact h')] at hj;cases hj
  rw[aav Zo,aax] at hj;have e1:(⟨blk,off,none⟩:Addr).add j=⟨blk,off+j,none⟩:=by have:=cN (h:=⟨blk,0,0⟩) (o:=off) (n:=j) (aan _);simpa using this
  rw[e1];simp only [World.cell?,Yn,hw];rw[←hj];simp
def kH{d:Ct}(h0:d.len=0){a:Option Addr}{c:Nat}:wK P ρ w (.slice a 0 c) d:=by
 refine⟨λ_=>by rw[h0];rfl,[], ?_,by rw[h0];simp,λ_ _=>?_⟩
 ·rw[h0];exact LR.nil ρ
 ·rw[h0];cases a <;> simp [Builtin.firstCells,loadCells,loadCellsFrom]
def Lo{m:Nat}{l:List G}{y:AV}{u:Value}(hG:Good w0 ρ σ.h w)(hy:VR ρ y u)(h:Bv y=some (m,l)):wK P ρ w u (.rows m l):=by
 cases hy with
 |cv c blk off cp arr ty hf hc hb r=>
  cases c with
  |bytes t=>cases h
  |rows m' l'=>
   injection h with h;injection h with e1 e2;subst e1;subst e2;obtain⟨⟨fr,hw⟩,_⟩:=hG.frz _ _ _ hf;refine BO hw hb λi j a hi ha=>?_;have hj:j<(Ct.rows m' l').es:=by
    have:=(Ct.rows m' l').row_len i;rcases aaf j ((Ct.rows m' l').row i).length with h'|h'
    ·omega
    ·rw[aak h'] at ha;cases ha
   have hm:i * (Ct.rows m' l').es+(Ct.rows m' l').es<=(Ct.rows m' l').len * (Ct.rows m' l').es:=by rw[←aaL];exact aay _ hi
   have c8:off+i * (Ct.rows m' l').es+j<arr.size:=by omega
   exact⟨_,aaK c8,r i j a _ hi ha (aaK c8)⟩
 |cvnil c h0=>
  cases c with
  |bytes t=>cases h
  |rows m' l'=>injection h with h;injection h with e1 e2;subst e1;subst e2;exact kH h0
 |cvempty c a h0=>
  cases c with
  |bytes t=>cases h
  |rows m' l'=>injection h with h;injection h with e1 e2;subst e1;subst e2;exact kH h0
 |_=>cases h
def Hb{m:Nat}{l:List G}{b g n ty:Nat}{u:Value}(hG:Good w0 ρ σ.h w)(hq:σ.h.get b=some (.grow (.rows m l) g ty))(hn:l.length=n)(hy:VR ρ (.gsl b g n (aS (bO m))) u):wK P ρ w u (.rows m l):=by
 cases hy with
 |gnil _ _ _=>exact kH (show(Ct.rows m l).len=0 from hn)
 |gempty _ _ _ a=>exact kH (show(Ct.rows m l).len=0 from hn)
 |gsl _ _ _ _ hm c Yp hh w8 W2 hz=>
  subst hn;rcases hG.blk _ _ hq with hB|⟨u0,q1,q2,q3,arr,fr,q4,q5,q6,q7,q8⟩
  ·have hB:l.length=0:=hB;omega
  ·rw[hh] at q1;injection q1 with q1;subst q1;refine BO (d:=.rows m l) (off:=0) q4 (by rw[aam,q5];exact q6) λi j a hi ha=>?_;obtain⟨uu,u1,u2⟩:=q8 i hi j a ha;exact⟨uu,by rw[aam];exact u1,u2⟩
def Hc{m n:Nat}{l:List G}{b g ty:Nat}{u:Value}(hG:Good w0 ρ σ.h w)(hq:σ.h.get b=some (.grow (.rows m l) g ty))(hn:n<=l.length)(hy:VR ρ (.gsl b g n (aS (bO m))) u):wK P ρ w u (.rows m (l.take n)):=by
 have hl:(l.take n).length=n:=by rw[aar];omega
 cases hy with
 |gnil _ _ _=>exact kH (d:=.rows m (l.take 0)) hl
 |gempty _ _ _ a=>exact kH (d:=.rows m (l.take 0)) hl
 |gsl _ _ _ _ hm c Yp hh w8 W2 hz=>
  rcases hG.blk _ _ hq with hB|⟨u0,q1,q2,q3,arr,fr,q4,q5,q6,q7,q8⟩
  ·have hB:l.length=0:=hB;omega
  ·rw[hh] at q1;injection q1 with q1;subst q1;have q6:l.length * aS (bO m)<=hm.size:=q6;have hmul:n * aS (bO m)<=l.length * aS (bO m):=aay _ hn;have:=BO (P:=P) (ρ:=ρ) (d:=.rows m (l.take n)) (off:=0) (cp:=c) q4 (by show 0+(l.take n).length * aS (bO m)<=_;rw[hl];omega) λi j a hi ha=>by
    have hi:i<n:=by have hi:i<(l.take n).length:=hi;omega
    have e:(Ct.rows m (l.take n)).row i=(Ct.rows m l).row i:=by show aV _ (aL _ _) _=aV _ (aL _ _) _;unfold aL;rw[aai,aai,aav hi]
    rw[e] at ha;obtain⟨uu,u1,u2⟩:=q8 i (show i<l.length by omega) j a ha;exact⟨uu,by rw[aam];exact u1,u2⟩
   rw[show(Ct.rows m (l.take n)).len=n from hl] at this;exact this
def Hd{m n o:Nat}{l:List G}{b g ty:Nat}{u:Value}(hG:Good w0 ρ σ.h w)(hq:σ.h.get b=some (.grow (.rows m l) g ty))(ho:o=o/aS (bO m) * aS (bO m))(hn:o/aS (bO m)+n<=l.length)(hy:VR ρ (.slc b g o n none (aS (bO m))) u):wK P ρ w u (.rows m ((l.drop (o/aS (bO m))).take n)):=by
 have hl:((l.drop (o/aS (bO m))).take n).length=n:=by rw[aar,aat];omega
 cases hy with
 |slc _ _ _ _ _ _ ad c t8=>
  obtain⟨Wz,t8⟩:=t8;rcases aaR n with X6|X6
  ·subst X6;exact kH (d:=.rows m ((l.drop (o/aS (bO m))).take 0)) hl
  rcases t8 with⟨h1,_⟩|⟨hm,hh,hs,ea,hz⟩
  ·omega
  rcases hG.blk _ _ hq with hB|⟨u0,q1,q2,q3,arr,fr,q4,q5,q6,q7,q8⟩
  ·have hB:l.length=0:=hB;have:=aaH (Nat.le_add_left n (o/aS (bO m))) hn;omega
  rw[hh] at q1;injection q1 with q1;subst q1;subst ea;rw[q2,abm] at hz⊢;generalize hk:o/aS (bO m)=k0 at *;have q6:l.length * aS (bO m)<=hm.size:=q6;have hmul:(k0+n) * aS (bO m)<=l.length * aS (bO m):=aay _ hn;rw[aaz] at hmul;have:=BO (P:=P) (ρ:=ρ) (d:=.rows m ((l.drop k0).take n)) (off:=o) (cp:=c) q4 (by show o+((l.drop k0).take n).length * aS (bO m)<=_;rw[hl];omega) λi j a hi ha=>by
   have hi:i<n:=by have hi:i<((l.drop k0).take n).length:=hi;omega
   have e:(Ct.rows m ((l.drop k0).take n)).row i=(Ct.rows m l).row (k0+i):=by show aV _ (aL _ _) _=aV _ (aL _ _) _;unfold aL;rw[aai,aai,aav hi,aax]
   rw[e] at ha;obtain⟨uu,u1,u2⟩:=q8 (k0+i) (show k0+i<l.length by omega) j a ha;refine⟨uu, ?_,u2⟩;have u1:arr[(k0+i) * aS (bO m)+j]? =some uu:=u1;rw[←u1];show arr[o+i * aS (bO m)+j]? =_;rw[ho,aaz]
  rw[show(Ct.rows m ((l.drop k0).take n)).len=n from hl] at this;exact this
def He{tys:Array TypeId}{ts tx e ty:TypeId}{dx:TypeDesc}{i:TypeInfo}{zv:Value}{m:Nat}{l:List G}{a:AV}{v u:Value}(hS:SI σ)(hG:Good w0 ρ σ.h w)(hx:VR ρ a v)(hu:wK P ρ w u (.rows m l))(h0:tys[0]? =some ts)(h1:tys[1]? =some tx)(ht:P.underlying ts=some (.slice e))(z':P.underlying tx=some dx)(Wu:∀j,dx≠ .int j)(hi:P.info? e=some i)(W0:i.bytes<=1000)(Yo:i.zero=some zv)(XM:zv.cells.size=i.size)(h:run (rM e i.size m l k a) σ K=true):Res P w0 ρ w k K (Builtin.append_ tys ty #[v,u]):=by
 obtain⟨hlen,cs,hL,x8,i6⟩:=hu
 cases a with
 |gsl b g len es=>
  obtain⟨kes,h⟩:=aj h
  have kes:=aF kes
  subst kes
  have d4:=cy hS h
  obtain⟨q,c7,hq,e1,b6,h⟩:=aT hS h
  cases q with
  |grow c gen XE=>
   cases c with
   |bytes l0=>exact(ac h).elim
   |rows m0 l0=>
   obtain⟨k1,z1⟩:=aj h
   obtain⟨k2,z2⟩:=aj z1
   obtain⟨k3,z3⟩:=aj z2
   obtain⟨k4,z4⟩:=aj z3
   obtain⟨⟨k5,k6,k7⟩,z5⟩:=aJ z4
   obtain⟨x0,d5,A',e2,d8,_,z6⟩:=cr b6 z5
   clear h z1 z2 z3 z4 z5
   have k1:=aF k1
   have k2:=aF k2
   have k3:=aF k3
   have k4:=aF k4
   subst k1;subst k2;subst k3
   have b9:Good w0 ρ c7.h w:=by rw[e1];exact hG
   have p9:c7.h.get b=some (.grow (.rows m0 l0) g XE):=by rw[e1];exact hq
   rcases aaR l.length with X6|i4
   ·have ht0:l= []:=List.length_eq_zero_iff.1 X6
    subst ht0
    have el:l0++ []=l0:=abo l0
    rw[el] at e2
    have r9:∀w:World,(Builtin.lenOf u).run P w= .ok 0 w:=hlen
    cases hx with
    |gsl _ _ _ _ hm c Yp hh w8 W2 hz=>
     have hB:=b9.blk _ _ p9;obtain⟨hle,B'⟩:=b9.forkX (w':=w) (x:=.grow (.rows m0 l0) (g+1) XE) (gen:=g) (h2:=hm) p9 (λg' h'=>h') (λg' h'=>h') d4 (Kept.refl _ _ _) (λ_ _ _=>rfl) (aab _) (λ_ _ _ _ _=>rfl) (b9.dom _ _ _ hh).1 (.inl ⟨g,hh⟩) (λhle=>by
      rcases hB with hB|⟨u0,q1,q2,q3,arr,fr,q4,q5,q6,q7,q8⟩
      ·exact .inl hB
      ·rw[hh] at q1;injection q1 with q1;subst q1;exact .inr ⟨hm,Rho.put_at _ _ _ _,q2,q3.mono hle,arr,fr,q4,q5,q6,q7,λi hi j a ha=>by obtain⟨uu,u1,u2⟩:=q8 i hi j a ha;exact⟨uu,u1,u2.mono hle⟩⟩)
     exact⟨_,d5,_,_,w,z6,d8,by rw[e2];exact B',hle,.gsl b (g+1) (len+0) i.size hm c Yp (Rho.put_at _ _ _ _) w8 W2 hz,aP h0 h1 ht z' Wu hi (r9 _) W2 (aQ (r9 w))⟩
    |gnil _ _ _=>exact .plain z6 d8 (by rw[e2];exact b9.none_turn p9 d4 k5 (λg' h'=>abF h') (λh=>h)) (.gnil _ _ _) (aP h0 h1 ht z' Wu hi (r9 _) (aab _) (aQ (r9 w)))
    |gempty _ _ _ a=>exact .plain z6 d8 (by rw[e2];exact b9.none_turn p9 d4 k5 (λg' h'=>abF h') (λh=>h)) (.gempty _ _ _ a) (aP h0 h1 ht z' Wu hi (r9 _) (aab _) (aQ (r9 w)))
   ·have ah4:(kG (.rows m0 l) l.length).length=l.length * i.size:=by rw[cz];show _ * aS (bO m0)=_;rw[k4]
    have ae3:(Ct.rows m0 (l0++l)).len=(Ct.rows m0 l0).len+l.length:=aal;obtain⟨ρ',v',w',g1,g2,g3,g4⟩:=rY (P:=P) (ty:=ty) (c1:=.rows m0 (l0++l)) (n:=l.length) (l:=kG (.rows m0 l) l.length) (cs:=cs) b9 hx h0 h1 ht z' Wu hi W0 Yo XM hlen k7 i4 hL (by rw[x8];show _ * aS (bO m0)=_;rw[k4];rfl)
     (λw2 Yn=>by have:=i6 w2 Yn;rwa [show(Ct.rows m0 l).es=i.size from k4] at this) p9 d4 k4 ah4 (wJ m0 l _) k5 k6 ae3 rfl (λρ2 i2 X7 vs l6=>by
      have X7:i2<l0.length+l.length:=X7;by_cases h':i2<l0.length
      ·rw[mL (show i2<(Ct.rows m0 l0).len from h')] at l6;have e:(Ct.rows m0 (l0++l)).row i2=(Ct.rows m0 l0).row i2:=by show aV _ (aL _ _) _=aV _ (aL _ _) _;unfold aL;rw[aai,aai,aaB h']
       rw[e];exact l6
      ·rw[jz (show ¬i2<(Ct.rows m0 l0).len from h')] at l6;have e:(Ct.rows m0 (l0++l)).row i2=(Ct.rows m0 l).row (i2-l0.length):=by show aV _ (aL _ _) _=aV _ (aL _ _) _;unfold aL;rw[aai,aai,aaG (by omega)]
       rw[e, ←wI (.rows m0 l) l.length (i2-l0.length) (by omega)];exact l6)
    exact⟨_,d5,ρ',v',w',z6,d8,by rw[e2];exact g1,g2,g3,g4⟩
  |_=>exact(ac h).elim
 |_=>exact(ac h).elim
def zV{tys:Array TypeId}{ts tx e ty:TypeId}{dx:TypeDesc}{x y:AV}{v u:Value}(hS:SI σ)(hG:Good w0 ρ σ.h w)(hx:VR ρ x v)(hy:VR ρ y u)(h0:tys[0]? =some ts)(h1:tys[1]? =some tx)(ht:P.underlying ts=some (.slice e))(z':P.underlying tx=some dx)(Wu:∀j,dx≠ .int j)(h:run (Bx P e x y k) σ K=true):Res P w0 ρ w k K (Builtin.append_ tys ty #[v,u]):=by
 obtain⟨i,hi,h⟩:=Oa h
 obtain⟨W0,h⟩:=aj h
 have W0:=aU W0
 obtain⟨o9,h⟩:=aj (fg h)
 have o9:=aU o9
 obtain⟨z,zv,i',hi',WN,hz,h⟩:=j_ ρ w h
 have Yo:i.zero=some zv:=by
  simp [zeroValue,typeInfo,aaa,run_program,hi] at WN
  cases XB:i.zero with
  |none=>rw[XB] at WN;simp at WN
  |some q=>rw[XB] at WN;simp at WN;rw[WN]
 obtain⟨zl,ZF,h⟩:=fi hz h
 obtain⟨XM,h⟩:=aj h
 have XM:=aF XM
 have XM:zv.cells.size=i.size:=by rw[←aaI,ZF.1];exact XM
 have appS:∀(t:List Nat) (σ:St),SI σ->Good w0 ρ σ.h w->Pu P ρ w u t->run (nX e i.size t x k) σ K=true->Res P w0 ρ w k K (Builtin.append_ tys ty #[v,u]):=by
  intro t σ hS hG hu h
  obtain⟨XN,h⟩:=aj h
  have XN:=aF XN
  have grown:∀(a:AV) (a8:St),SI a8->Good w0 ρ a8.h w->VR ρ a v->run (vV e t k a) a8 K=true->Res P w0 ρ w k K (Builtin.append_ tys ty #[v,u]):=by
   intro a a8 j7 g9 ha h
   cases a with
   |gsl b g len es=>obtain⟨n8,h⟩:=aj h;have n8:=aF n8;subst n8;exact Ha j7 g9 ha hu h0 h1 ht z' Wu hi W0 Yo (by rw[XM,XN]) XN h
   |_=>exact(ac h).elim
  cases x with
  |gsl b g len es=>exact grown _ _ hS hG hx h
  |nils=>obtain⟨b,a8,hn,d4,e1,j7,h⟩:=cZ hS h;cases hx;exact grown _ _ j7 (by rw[e1];exact hG.none_new hn d4 rfl) (.gnil _ _ _) h
  |slc b g o len cap es=>
   obtain⟨n8,z1⟩:=aj h;have n8:=aae n8;rcases bf z1 with⟨Y0,z2⟩|⟨_,z2⟩
   ·obtain⟨hz,z3⟩:=aj z2
    obtain⟨b',a8,hn,d4,e1,j7,z4⟩:=cZ hS z3
    have hc:cap=some 0:=by
     unfold tK at hz;split at hz
     ·rfl
     ·cases hz
    have Y0:=aae Y0
    clear h z1 z2 z3
    cases hx with
    |slc _ _ _ _ _ _ a c t8=>rw[hc] at t8;obtain⟨_,ec,_⟩:=t8;rw[Y0,ec] at grown⊢;exact grown _ _ j7 (by rw[e1];exact hG.none_new hn d4 rfl) (.gempty _ _ _ a) z4
   ·obtain⟨a8,z3,j7,g9,_,hv⟩:=da hS hG iV z2;rw[n8] at hx;exact grown _ _ j7 g9 (hv ρ (.refl _) _ hx) z3
  |_=>exact(ac h).elim
 have appR:∀(m:Nat) (l:List G) (σ:St),SI σ->Good w0 ρ σ.h w->wK P ρ w u (.rows m l)->run (jv e i.size m l x k) σ K=true->Res P w0 ρ w k K (Builtin.append_ tys ty #[v,u]):=by
  intro m l σ hS hG hu h
  have grown:∀(a:AV) (a8:St),SI a8->Good w0 ρ a8.h w->VR ρ a v->run (rM e i.size m l k a) a8 K=true->Res P w0 ρ w k K (Builtin.append_ tys ty #[v,u]):=
   λa a8 j7 g9 ha h=>He j7 g9 ha hu h0 h1 ht z' Wu hi W0 Yo XM h
  cases x with
  |gsl b g len es=>exact grown _ _ hS hG hx h
  |nils=>obtain⟨b,a8,hn,d4,e1,j7,h⟩:=cZ hS h;cases hx;exact grown _ _ j7 (by rw[e1];exact hG.none_new hn d4 rfl) (.gnil _ _ _) h
  |slc b g o len cap es=>
   obtain⟨n8,z1⟩:=aj h;have n8:=aae n8;rcases bf z1 with⟨Y0,z2⟩|⟨_,z2⟩
   ·obtain⟨hz,z3⟩:=aj z2
    obtain⟨b',a8,hn,d4,e1,j7,z4⟩:=cZ hS z3
    have hc:cap=some 0:=by
     unfold tK at hz;split at hz
     ·rfl
     ·cases hz
    have Y0:=aae Y0
    clear h z1 z2 z3
    cases hx with
    |slc _ _ _ _ _ _ a c t8=>rw[hc] at t8;obtain⟨_,ec,_⟩:=t8;rw[Y0,ec] at grown⊢;exact grown _ _ j7 (by rw[e1];exact hG.none_new hn d4 rfl) (.gempty _ _ _ a) z4
   ·obtain⟨a8,z3,j7,g9,_,hv⟩:=da hS hG gw z2;exact grown _ _ j7 g9 (hv ρ (.refl _) _ hx) z3
  |_=>exact(ac h).elim
 have main:∀σ:St,SI σ->Good w0 ρ σ.h w->run (match Bv y with
  |some (m,l)=>jv e i.size m l x k
  |none=>match zr y with
   |some t=>nX e i.size t x k
   |none=>zq y λn=>aa (Nat.ble n 1000000) (iN i.size n y λnew=>iO e i.size n new x k) .fail) σ K=true->Res P w0 ρ w k K (Builtin.append_ tys ty #[v,u]):=by
  intro σ hS hG h
  cases hrx:Bv y with
  |some ml=>
   obtain⟨m,l⟩:=ml
   rw[hrx] at h
   exact appR m l σ hS hG (Lo hG hy hrx) h
  |none=>
  rw[hrx] at h
  cases XO:zr y with
  |some t=>
   rw[XO] at h
   exact appS t σ hS hG (Lm (P:=P) (w:=w) hG hy XO) h
  |none=>
  rw[XO] at h
  obtain⟨n,h,hlen⟩:=ua (P:=P) hy h
  obtain⟨hn,h⟩:=aj h
  have hn:=aU hn
  obtain⟨l,cs,a8,e1,j7,h,hL,x8,i6⟩:=jy (P:=P) (w:=w.drew) hS (hG.drawn _) hy (hlen _) (aab _) o9 h
  have g9:Good w0 ρ a8.h w:=by rw[e1];exact hG
  have gcase:∀b g len es,VR ρ (.gsl b g len es) v->run (iO e i.size n l (.gsl b g len es) k) a8 K=true->Res P w0 ρ w k K (Builtin.append_ tys ty #[v,u]):=by
   intro b g len es hx h;obtain⟨n8,h⟩:=aj h;have n8:=aF n8;subst n8;rcases bf h with⟨Xn,h⟩|⟨Xn,h⟩
   ·have Xn:=aF Xn
    subst Xn
    cases hx with
    |gsl _ _ _ _ hm c X6 hh w8 W2 hz=>exact .plain h j7 g9 (.gsl _ _ _ _ hm c X6 hh w8 W2 hz) (aP h0 h1 ht z' Wu hi (hlen _) W2 (aQ (hlen w)))
    |gnil _ _ _=>exact .plain h j7 g9 (.gnil _ _ _) (aP h0 h1 ht z' Wu hi (hlen _) (aab _) (aQ (hlen w)))
    |gempty _ _ _ a=>exact .plain h j7 g9 (.gempty _ _ _ a) (aP h0 h1 ht z' Wu hi (hlen _) (aab _) (aQ (hlen w)))
   ·have i4:0<n:=by
     rcases aaR n with e|e
     ·subst e;simp at Xn
     ·exact e
    exact wG (ty:=ty) j7 g9 hx h0 h1 ht z' Wu hi W0 Yo XM hlen hn i4 hL x8 (λw2 Yn=>i6 w2 Yn) h
  cases hx with
  |nils=>
   rcases bf h with⟨Xn,h⟩|⟨Xn,h⟩
   ·have Xn:=aF Xn;subst Xn;exact .plain h j7 g9 .nils (aP h0 h1 ht z' Wu hi (hlen _) (aab _) (aQ (hlen w)))
   ·have i4:0<n:=by
     rcases aaR n with e|e
     ·subst e;simp at Xn
     ·exact e
    have hnb:n * i.bytes<=1000000 * 1000:=ZX hn W0;have b7:=c_ (P:=P) (w:=w) (ty:=ty) (base:=none) (sLen:=0) (sCap:=0) (olds:=[]) h0 h1 ht z' Wu hi Yo (hlen w) (by omega) (by omega) (by rw[aam,nextslicecap_zero i4];omega) (by simp [Builtin.firstCells]) (i6 _ rfl);rw[aam] at b7;have W3:=grownCap_ge w n 0 e;refine BM (a:=.nilIface) (ovs:=[]) (nvs:=cs) (rest:=λc=>(Builtin.zeroCells zv.cells (c-n)).toList) j7 g9 (LR.nil ρ) hL (grownCap w n 0 e) W3 ?_ h _ b7;simp only [abx,aaI,size_zeroCells,XM,x8,aam, ←aaz];congr 1;omega
  |slc b g o len cap es a c t8=>
   obtain⟨n8,h⟩:=aj h
   obtain⟨hlm,h⟩:=aj h
   have n8:=aF n8
   have hlm:=aU hlm
   rcases bf h with⟨Xn,h⟩|⟨Xn,h⟩
   ·have Xn:=aF Xn;subst Xn;exact .plain h j7 g9 (.slc _ _ _ _ _ _ _ _ t8) (aP h0 h1 ht z' Wu hi (hlen _) t8.1 (aQ (hlen w)))
   ·have i4:0<n:=by
     rcases aaR n with e|e
     ·subst e;simp at Xn
     ·exact e
    have h:=fg h
    have Z9:Builtin.nextslicecap (len+n) c * i.bytes<=281474976710656∨len+n<=c:=by
     rcases aaf c (len+n) with c8|W3
     ·left;have h1:Builtin.nextslicecap (len+n) c<=2 * (len+n):=nextslicecap_le c8;have h2:=ZX h1 W0;omega
     ·exact .inr W3
    have W3:=grownCap_ge w (len+n) c e
    have ae4:∀(m:Nat),len * i.size+cs.length+(Builtin.zeroCells zv.cells (m-(len+n))).toList.length=(len+n) * i.size+(m-(len+n)) * i.size:=λm=>by
     have ZI:(Builtin.zeroCells zv.cells (m-(len+n))).toList.length=(m-(len+n)) * i.size:=by rw[aaI,size_zeroCells,XM]
     rw[ZI,x8,aaz]
    cases cap with
    |some k0=>
     obtain⟨Wz,ek,hm,hh,ho,ea⟩:=t8;subst ek;subst ea;rcases bf h with⟨Z_,h⟩|⟨Z_,h⟩
     ·have Z_:=aU Z_;have h:=fg h;obtain⟨d5,w2,q1,q2,q3,q4⟩:=fJ (P:=P) j7 g9 hh (show hm.shift<=o+len * i.size by omega) hL h;refine⟨_,d5,ρ,_,w2,q1,q2,q3,Rho.le.refl ρ,.slc _ _ _ _ _ _ _ _ ⟨Z_,rfl,hm,hh,ho,rfl⟩, ?_⟩;exact dD h0 h1 ht z' Wu hi (hlen w) Z_ (i6 w rfl) (by rw[cN ho];exact q4)
     ·have Z_:=Pk Z_;obtain⟨lo,ovs,d5,e2,d8,h,hLo,hol,hof⟩:=jy (P:=P) (v:=.slice (some ⟨hm.blk,o-hm.shift,none⟩) len c) (len:=len) j7 g9 (.slc b g o len (some c) es _ c ⟨Wz,rfl,hm,hh,ho,rfl⟩) rfl (aab _) o9 h;have d9:Good w0 ρ d5.h w:=by rw[e2];exact g9
      have b7:=c_ (P:=P) (w:=w) (ty:=ty) h0 h1 ht z' Wu hi Yo (hlen w) Z_ (by omega) (Z9.resolve_right (by omega)) (hof _ rfl) (i6 _ rfl);refine BM (a:=.nilIface) (ovs:=ovs) (nvs:=cs) (rest:=λm=>(Builtin.zeroCells zv.cells (m-(len+n))).toList) d8 d9 hLo hL (grownCap w (len+n) c e) W3 ?_ h _ b7;rw[hol];have:=ae4 (grownCap w (len+n) c e);rw[this, ←aaz];congr 1;omega
    |none=>
     have d4:=cy j7 h
     obtain⟨q,d5,hq,e2,d8,h⟩:=aT j7 h
     have d9:Good w0 ρ d5.h w:=by rw[e2];exact g9
     cases q with
     |cells c0 gen lo hi fl fh ro ty=>
      obtain⟨k1,z1⟩:=kB h;obtain⟨k2,z2⟩:=aj z1;obtain⟨k3,z3⟩:=aj z2;obtain⟨k4,z4⟩:=aj z3;obtain⟨k5,z5'⟩:=aj z4;obtain⟨k6,z5⟩:=aj z5';have z6:=fg z5;clear h z1 z2 z3 z4 z5 z5';have k6:=aF k6;have k2:=aF k2;have k3:=aF k3;have k4:=aF k4;have k5:=aU k5;subst k1;subst k2;subst k3;subst ty;subst n8;subst k4;obtain⟨ct,z7,p8,hct⟩:=D5 _ _ _ z6;have z8:=fg z7;obtain⟨x0,WO,_,e3,WP,_,z9⟩:=cr d8 z8;have ae5:l.length=n * i.size:=by rw[←hL.1];exact x8
      obtain⟨hm0,W5,_⟩:=(g9.blk _ _ hq).2 g (aab _);rcases aaf c (len+n) with c8|q9
      ·obtain⟨olds,hol,hoc,hof⟩:∃olds:List Value,olds.length=len * i.size/\(∀j v,olds[j]? =some v->0<len->w.cell? ⟨hm0.blk,o-hm0.shift+j,none⟩=some v)/\(Builtin.firstCells i.size len (.slice (some a) len c)).run P w.drew= .ok olds.toArray w.drew:=by
        rcases aaR len with XB|XB
        ·subst XB;exact⟨[],by simp,by simp,by simp [Builtin.firstCells,loadCells,loadCellsFrom]⟩
        ·obtain⟨Wz,O'⟩:=t8;obtain⟨hm,hh,ho,ea,w7⟩:=O'.resolve_left (λhc=>by omega);rw[W5] at hh;injection hh with hh;subst hh;obtain⟨u0,q1,q2,_,arr,fr,q3,q4,q5,q6⟩:=(g9.blk _ _ hq).2 g (aab _);rw[W5] at q1;injection q1 with q1;subst q1;have hmul:len * i.size<=c * i.size:=ZX Wz (aab _);refine⟨(arr.toList.drop (o-hm0.shift)).take (len * i.size), ?_,λj v hj _=>?_, ?_⟩
         ·rw[aar,aat,aaI,q4];omega
         ·rw[aaV] at hj;split at hj
          ·rw[aax,aaP] at hj;simp [World.cell?,q3,hj]
          ·cases hj
         ·refine run_firstCells_some _ i.size len a len c _ (by rw[aar,aat,aaI,q4];omega) λj v hj=>?_;rw[ea,cN ho];rw[aaV] at hj;split at hj
          ·rw[aax,aaP] at hj;show w.cell? _=_;rw[show o+j-hm0.shift=o-hm0.shift+j by omega];simp [World.cell?,q3,hj]
          ·cases hj
       have b7:=c_ (P:=P) (w:=w) (ty:=ty) h0 h1 ht z' Wu hi Yo (hlen w) c8 (by omega) (Z9.resolve_right (by omega)) hof (i6 _ rfl);obtain⟨hle,B'⟩:=G8 (e2:=e) (rest:=(Builtin.zeroCells zv.cells (grownCap w (len+n) c e-(len+n))).toList) g9 d4 hq W5 hL ae5 hol (λXB=>by obtain⟨Wz,O'⟩:=t8;obtain⟨hm,hh,ho,ea,w7⟩:=O'.resolve_left (λhc=>by omega);rw[W5] at hh;injection hh with hh;subst hh;exact ho) hoc hct;refine⟨_,WO,_,_,_,z9,WP,by rw[e3,e2];exact B',hle,.slc _ _ _ _ _ _ _ _ ⟨W3,.inr ⟨_,Rho.put_at _ _ _ _,aab _,by simp, ?_⟩⟩,b7⟩;show o-o+grownCap w (len+n) c e * i.size<=(olds++cs++(Builtin.zeroCells zv.cells (grownCap w (len+n) c e-(len+n))).toList).length;rw[aal,aal,hol,ae4, ←aaz,abn,aam];exact ZX (by omega) (aab _)
      ·obtain⟨Wz,O'⟩:=t8;obtain⟨hm,hh,ho,ea,w7⟩:=O'.resolve_left (λhc=>by omega);rw[W5] at hh;injection hh with hh;subst hh;subst ea;obtain⟨w',q1,hle,B'⟩:=D6 (P:=P) g9 d4 hq W5 ho k5 hL ae5 q9 w7 p8 hct;refine⟨_,WO,_,_,w',z9,WP,by rw[e3,e2];exact B',hle,.slc _ _ _ _ _ _ _ _ ⟨q9,.inr ⟨_,Rho.put_at _ _ _ _,ho,rfl,w7⟩⟩, ?_⟩;exact dD h0 h1 ht z' Wu hi (hlen w) q9 (i6 w rfl) q1
     |_=>exact(ac h).elim
  |gsl b g len es hm c X6 hh w8 W2 hz=>exact gcase _ _ _ _ (.gsl _ _ _ _ hm c X6 hh w8 W2 hz) h
  |gnil b g es=>exact gcase _ _ _ _ (.gnil _ _ _) h
  |gempty b g es a=>exact gcase _ _ _ _ (.gempty _ _ _ a) h
  |_=>exact(ac h).elim
 unfold Bw at h
 cases y with
 |gsl b g n es=>
  obtain⟨q,c7,hq,e1,b6,h⟩:=aT hS h
  have b9:Good w0 ρ c7.h w:=by rw[e1];exact hG
  have p9:c7.h.get b=some q:=by rw[e1];exact hq
  cases q with
  |grow c gen XE=>
   cases c with
   |rows m l=>
    obtain⟨c1,z1⟩:=aj h
    obtain⟨c2,z2⟩:=aj z1
    have c1:=aF c1
    have c2:=aF c2
    subst c1;subst c2
    rcases bU z2 with⟨c3,z3⟩|⟨_,z3⟩
    ·exact appR m l c7 b6 b9 (Hb b9 p9 c3 hy) z3
    ·obtain⟨c3,z4⟩:=aJ z3;exact appR m _ c7 b6 b9 (Hc b9 p9 c3 hy) z4
   |bytes t=>
   obtain⟨c1,z1⟩:=aj h
   obtain⟨c2,z2⟩:=aj z1
   obtain⟨c3,z3⟩:=aJ z2
   have c1:=aF c1
   have c2:=aF c2
   subst c1;subst c2
   exact appS t c7 b6 b9 (Ln b9 p9 c3 hy) z3
  |_=>exact(ac h).elim
 |slc b g o n cap es=>
  cases cap with
  |some cc=>exact main σ hS hG h
  |none=>
  obtain⟨q,c7,hq,e1,b6,h⟩:=aT hS h
  have b9:Good w0 ρ c7.h w:=by rw[e1];exact hG
  have p9:c7.h.get b=some q:=by rw[e1];exact hq
  have fall:run (zq (.slc b g o n none es) λn'=>aa (Nat.ble n' 1000000) (iN i.size n' (.slc b g o n none es) λnew=>iO e i.size n' new x k) .fail) c7 K=true->Res P w0 ρ w k K (Builtin.append_ tys ty #[v,u]):=λh=>main c7 b6 b9 h
  cases q with
  |grow c gen XE=>
   cases c with
   |rows m l=>
    obtain⟨c1,z1⟩:=aj h
    obtain⟨c2,z2⟩:=aj z1
    obtain⟨⟨c3,c4⟩,z3⟩:=aJ z2
    have c1:=aF c1
    have c2:=aF c2
    subst c1;subst c2
    exact appR m _ c7 b6 b9 (Hd b9 p9 c3 c4 hy) z3
   |bytes t=>exact fall h
  |_=>exact fall h
 |_=>exact main σ hS hG h
def zW{tys:Array TypeId}{ty:TypeId}{args:List AV}{vs:List Value}(hS:SI σ)(hG:Good w0 ρ σ.h w)(hl:LR ρ args vs)(h:run (tL P tys args k) σ K=true):Res P w0 ρ w k K (Builtin.append_ tys ty vs.toArray):=by
 unfold tL at h;split at h
 ·rename_i ts tx s x h0 h1;obtain⟨v,YK,rfl,hv,u5⟩:=hl.cons_inv;obtain⟨u,ZJ,rfl,hu,o5⟩:=u5.cons_inv;have:=o5.nil_inv;subst this;obtain⟨d,hd,h⟩:=bp h;obtain⟨dx,z',h⟩:=bp h;split at h
  ·exact(ac h).elim
  ·rename_i e Wu;exact zV hS hG hv hu h0 h1 hd z' (λj ej=>Wu j ej) h
  ·exact(ac h).elim
 ·exact(ac h).elim
def D9{tys:Array TypeId}{ty:TypeId}{args:List AV}{vs:List Value}(hS:SI σ)(hG:Good w0 ρ σ.h w)(hl:LR ρ args vs)(h:run (zs P tys args k) σ K=true):Res P w0 ρ w k K (Builtin.len_ tys ty vs.toArray):=by
 unfold zs at h;split at h
 ·rename_i t x h0;obtain⟨v,YK,rfl,hv,u5⟩:=hl.cons_inv;have:=u5.nil_inv;subst this;obtain⟨d,hd,h⟩:=bp h;split at h
  ·cases hv with
   |str s=>
    have hn:(bytesOf s).length=s.size:=by unfold bytesOf;rw[aaF];rfl
    refine .plain (fg h) hS hG (.int _ _) ?_;simp [Builtin.len_,h0,run_underlying hd,goInt,hn]
  ·refine .plain h hS hG (.int _ _) ?_;simp [Builtin.len_,h0,run_underlying hd,goInt]
  ·cases hv;refine .plain h hS hG (.int _ _) ?_;simp [Builtin.len_,h0,run_underlying hd,goInt]
  ·cases hv;refine .plain h hS hG (.int _ _) ?_;simp [Builtin.len_,h0,run_underlying hd,goInt]
  ·cases hv with
   |osl n base len cap hb=>refine .plain h hS hG (.anyI .i64 (len:Int)) ?_;simp [Builtin.len_,h0,run_underlying hd,goInt]
  ·cases hv with
   |cv c blk off cp arr t2 hf hc hb r=>refine .plain h hS hG (.sI .i64 _) ?_;simp [Builtin.len_,h0,run_underlying hd,goInt]
   |cvnil c hc0=>refine .plain h hS hG (.sI .i64 _) ?_;simp [Builtin.len_,h0,run_underlying hd,goInt,hc0]
   |cvempty c a hc0=>refine .plain h hS hG (.sI .i64 _) ?_;simp [Builtin.len_,h0,run_underlying hd,goInt,hc0]
  ·cases hv with
   |gsl b g n es hm c X6 hh w8 W2 hz=>refine .plain h hS hG (.sI .i64 _) ?_;simp [Builtin.len_,h0,run_underlying hd,goInt]
   |gnil b g es=>refine .plain h hS hG (.sI .i64 _) ?_;simp [Builtin.len_,h0,run_underlying hd,goInt]
   |gempty b g es a=>refine .plain h hS hG (.sI .i64 _) ?_;simp [Builtin.len_,h0,run_underlying hd,goInt]
  ·cases hv with
   |sS s=>
    have hn:(bytesOf s).length=s.size:=by unfold bytesOf;rw[aaF];rfl
    refine .plain h hS hG (.sI .i64 ((bytesOf s).length:Int)) ?_;simp [Builtin.len_,h0,run_underlying hd,goInt,hn]
  ·cases hv;refine .plain h hS hG (.int _ _) ?_;simp [Builtin.len_,h0,run_underlying hd,goInt]
  ·cases hv with
   |map b hm hh=>
    obtain⟨q,c7,hq,e1,b6,h⟩:=aT hS h
    cases q with
    |mapo es clock=>obtain⟨u0,g7,hB,o4,c9,m8,_⟩:=hG.blk _ _ hq;rw[hh] at g7;injection g7 with g7;subst g7;refine .plain (fg h) b6 (by rw[e1];exact hG) (.int _ _) ?_;simp [Builtin.len_,h0,run_underlying hd,goInt,aC c9 (by simp),m8]
    |smap m l=>obtain⟨u0,g7,hB,o4,clock,c9,m8,_⟩:=hG.blk _ _ hq;rw[hh] at g7;injection g7 with g7;subst g7;refine .plain h b6 (by rw[e1];exact hG) (.sI _ _) ?_;simp [Builtin.len_,h0,run_underlying hd,goInt,aC c9 (by simp),m8]
    |_=>exact(ac h).elim
  ·exact(ac h).elim
 ·exact(ac h).elim
def pn{t:TypeId}{r:Option Value}(hr:∀v,r=some v->(∃kt e,P.underlying t=some (.map kt e))/\∃j n,v= .int j n)(hS:SI σ)(hG:Good w0 ρ σ.h w)(h:run (.new (.mapo [] 0) λb=>k (.map b)) σ K=true):Res P w0 ρ w k K (Instr.makeMap t r):=by
 obtain⟨n,a8,hn,d4,hh,j7,h⟩:=cZ hS h
 obtain⟨hle,g9⟩:=hG.alloc hn d4 (.mapo [] 0) (.map #[] 0) 0 0 (λρ' hle j5 _=>⟨_,j5,.new hG.below.size, #[],by simp,rfl,by simp⟩)
 refine⟨_,a8,_,_,_,h,j7,by rw[hh];exact g9,hle,.map n _ (Rho.put_at _ _ _ _), ?_⟩
 cases r with
 |none=>simp [Instr.makeMap]
 |some v=>obtain⟨⟨kt,e,hu⟩,j,m,rfl⟩:=hr v rfl;simp [Instr.makeMap,run_underlying hu,asInt,asIntOf]
def uc{x:AV}{v:Value}(hx:VR ρ x v)(h:run (rO x k) σ K=true):run (k x) σ K=true/\((∃a,v= .pointer (some a))∨(∃f l m,v= .func (.func f) l m)∨∃f l m,v= .func (.yield f) l m):=by
 cases hx with
 |ptr b g o hm hh ho=>exact⟨h,.inl ⟨_,rfl⟩⟩
 |cptr _ _ _ _ _ _ _ _=>exact⟨h,.inl ⟨_,rfl⟩⟩
 |yld b hm hh=>exact⟨h,.inr (.inr ⟨_,_,_,rfl⟩)⟩
 |func fn l m first captured h1 h2 r1 r2 hf=>
  cases fn with
  |func f=>exact⟨h,.inr (.inl ⟨_,_,_,rfl⟩)⟩
  |yield f=>exact⟨h,.inr (.inr ⟨_,_,_,rfl⟩)⟩
  |_=>exact(ac h).elim
 |_=>exact(ac h).elim
end
end Go.Sym
namespace Go.Sym
open Go.RowKit (Below)
def MR(ρ:Rho)(es:List ME)(ess:List MapEntry):Prop:=
 ess.length=es.length/\∀(i:Nat) (k v:AV) (n:Nat) (e:MapEntry),es[i]? =some (.mk k v n)->ess[i]? =some e->VR ρ k e.key/\VR ρ v e.val/\e.born=n
def MR.nil(ρ:Rho):MR ρ [] []:=⟨rfl,by simp⟩
def MR.cons{ρ:Rho}{k v:AV}{n:Nat}{e:MapEntry}{es:List ME}{ess:List MapEntry}(h1:VR ρ k e.key)(h2:VR ρ v e.val)(h3:e.born=n)(h:MR ρ es ess):MR ρ (.mk k v n::es) (e::ess):=by
 refine⟨by simp [h.1],λi k' v' n' e' hi he=>?_⟩
 cases i with
 |zero=>simp at hi he;obtain⟨q1,q2,q3⟩:=hi;subst q1;subst q2;subst q3;subst he;exact⟨h1,h2,h3⟩
 |succ i=>exact h.2 i k' v' n' e' (by simpa using hi) (by simpa using he)
def MR.cons_inv{ρ:Rho}{k v:AV}{n:Nat}{es:List ME}{ess:List MapEntry}(h:MR ρ (.mk k v n::es) ess):∃e K',ess=e::K'/\VR ρ k e.key/\VR ρ v e.val/\e.born=n/\MR ρ es K':=by
 cases ess with
 |nil=>exact absurd h.1 (by simp)
 |cons e K'=>obtain⟨h1,h2,h3⟩:=h.2 0 k v n e rfl rfl;exact⟨e,K',rfl,h1,h2,h3,by simpa using h.1,λi k' v' n' e' hi he=>h.2 (i+1) k' v' n' e' (by simpa using hi) (by simpa using he)⟩
def MR.nil_inv{ρ:Rho}{ess:List MapEntry}(h:MR ρ [] ess):ess= []:=by
 cases ess with
 |nil=>rfl
 |cons _ _=>exact absurd h.1 (by simp)
def MR.append{ρ:Rho}{es fs:List ME}{ess fss:List MapEntry}(h:MR ρ es ess)(h':MR ρ fs fss):MR ρ (es++fs) (ess++fss):=by
 induction es generalizing ess with
 |nil=>rw[h.nil_inv];exact h'
 |cons x es ih=>
  cases x with
  |mk k v n=>obtain⟨e,K',rfl,h1,h2,h3,h4⟩:=h.cons_inv;exact MR.cons h1 h2 h3 (ih h4)
def MR.get{ρ:Rho}{es:List ME}{ess:List MapEntry}(h:MR ρ es ess){i:Nat}{k v:AV}{n:Nat}(hi:es[i]? =some (.mk k v n)):∃e,ess[i]? =some e/\VR ρ k e.key/\VR ρ v e.val/\e.born=n:=by
 have c8:i<ess.length:=by
  rcases aaf i es.length with h'|h'
  ·rw[h.1];exact h'
  ·rw[aak h'] at hi;cases hi
 exact⟨_,aah c8,h.2 i k v n _ hi (aah c8)⟩
def MR.set{ρ:Rho}{es:List ME}{ess:List MapEntry}(h:MR ρ es ess){i:Nat}{k v:AV}{n:Nat}{e:MapEntry}(h1:VR ρ k e.key)(h2:VR ρ v e.val)(h3:e.born=n):MR ρ (es.set i (.mk k v n)) (ess.set i e):=by
 refine⟨by simp [h.1],λj k' v' n' e' hj he=>?_⟩;rw[abp] at hj he;by_cases eij:i=j
 ·subst eij;rw[if_pos rfl] at hj he;split at hj
  ·injection hj with hj;injection hj with q1 q2 q3;subst q1;subst q2;subst q3;split at he
   ·injection he with he;subst he;exact⟨h1,h2,h3⟩
   ·cases he
  ·cases hj
 ·rw[if_neg eij] at hj he;exact h.2 j k' v' n' e' hj he
section
variable{P:Program}{w0:World}{ρ:Rho}{w:World}{σ:St}{K:Fin}{k:AV->Tr}
def BR.mapo_MR{B b:Nat}{es:List ME}{clock:Nat}(h:BR ρ B w b (.mapo es clock)):∃hm,ρ.at_ b 0=some hm/\Own ρ B hm.blk/\∃o4,w.heap[hm.blk]? =some (.map o4 clock)/\MR ρ es o4.toList:=by obtain⟨hm,h1,h2,o4,h3,h4,h5⟩:=h;exact⟨hm,h1,h2,o4,h3,by simpa using h4,λi k v n e hi he=>h5 i k v n e hi (by simpa using he)⟩
def BR.of_MR{B b:Nat}{es:List ME}{clock:Nat}{hm:Home}{o4:List MapEntry}(h1:ρ.at_ b 0=some hm)(h2:Own ρ B hm.blk)(h3:w.heap[hm.blk]? =some (.map o4.toArray clock))(h:MR ρ es o4):BR ρ B w b (.mapo es clock):=
 ⟨hm,h1,h2,o4.toArray,h3,by simpa using h.1,λi k v n e hi he=>h.2 i k v n e hi (by simpa using he)⟩
def rZ:∀(f:Nat) (t:TypeId),vW P f t=true->e_ P f t=true:=by
 intro f
 induction f with
 |zero=>intro t h;simp [vW] at h
 |succ f ih=>
  intro t h;unfold vW at h;unfold e_;split at h
  ·rename_i e;rw[e]
  ·rename_i e;rw[e]
  ·rename_i e;rw[e]
  ·rename_i fs e;rw[e];simp only [Bool.and_eq_true,abj] at h⊢;exact⟨h.1,λfd ZC=>ih _ (h.2 fd ZC).2⟩
  ·rename_i n e' e;rw[e];exact ih _ h
  ·cases h
def wL(em:Bool):∀(f:Nat) (t:TypeId) (a:AV) (v:Value) (N:Nat),vX P f t a=true->VR ρ a v->f<=N->(Instr.checkKey em N t v).run P w= .ok () w:=by
 intro f
 induction f with
 |zero=>intro t a v N h;simp [vX] at h
 |succ f ih=>
  intro t a v N h hv hN;obtain⟨N,rfl⟩:∃N',N=N'+1:=⟨N-1,by omega⟩
  unfold vX at h;split at h
  ·rename_i e;simp [Instr.checkKey,run_underlying e]
  ·rename_i e;simp [Instr.checkKey,run_underlying e]
  ·rename_i e;simp [Instr.checkKey,run_underlying e]
  ·rename_i fs e;split at h
   ·rename_i l
    cases hv with
    |agg _ cs h1 h2=>
     have hl:=LR.of_arr h1 h2
     rw[Instr.checkKey]
     simp only [aaa,run_underlying e,aad]
     rw[←Array.forIn_toList]
     have h:=List.all_eq_true.mp h
     generalize fs.toList=L at h
     induction L with
     |nil=>simp
     |cons fd L ihl=>
      have ZC:=h fd (by simp);split at ZC
      ·rename_i i d hi hd;split at ZC
       ·rename_i a ha;obtain⟨x,p1,r1⟩:=iS (w:=w) hd hi hl ha;have p2:=ih fd.type a x N ZC r1 (by omega);simp only [List.forIn_cons,aaa];by_cases hn:fd.name= "_"
        ·simp only [hn,ne_eq,not_true_eq_false,if_false,aac,aad];exact ihl λy hy=>h y (by simp [hy])
        ·simp only [hn,ne_eq,not_false_eq_true,if_true,aaa,p1,p2,aad,aac];exact ihl λy hy=>h y (by simp [hy])
       ·cases ZC
      ·cases ZC
   ·cases h
  ·rename_i n e' e;split at h
   ·rename_i l i d hi hd
    simp only [Bool.and_eq_true,Bool.not_eq_true',abj] at h
    obtain⟨⟨⟨o9,Zn⟩,Xt⟩,Xg⟩:=h
    have o9:=aF o9
    have Xt:=aF Xt
    cases hv with
    |agg _ cs h1 h2=>
     have hl:=LR.of_arr h1 h2
     rw[Instr.checkKey]
     simp only [aaa,run_underlying e,aad]
     simp only [Std.Legacy.Range.forIn_eq_forIn_range',Std.Legacy.Range.size,abm,Nat.add_one_sub_one,Nat.div_one]
     have each:∀j∈List.range' 0 n,∃x,(part e' cs (j * 1)).run P w= .ok x w/\(Instr.checkKey em N e' x).run P w= .ok () w:=λj hj=>by
      have hjn:j<l.length:=by have:=List.mem_range'.1 hj;obtain⟨i,hi,e⟩:=this;omega
      obtain⟨x,hx,hr⟩:=hl.get (aah hjn);have w6:cs[j]? =some x:=by simpa using hx
      refine⟨x, ?_,ih e' l[j] x N (Xg _ (abk _)) hr (by omega)⟩;simp only [aaC,part,aaa,bJ hd,Zn,aad,Bool.false_eq_true,if_false,w6,aac]
     generalize List.range' 0 n=is at each
     induction is with
     |nil=>simp
     |cons j is ihl=>obtain⟨x,p1,p2⟩:=each j (by simp);simp only [List.forIn_cons,aaa,am hi,o9,aad,p1,p2,aac];exact ihl λy hy=>each y (by simp [hy])
   ·cases h
  ·cases h
def FR(ρ:Rho)(es:List ME)(ess:List MapEntry):Option (Nat×AV)->Option (Nat×Value)->Prop
 |none,none=>True
 |some (i,a),some (j,v)=>i=j/\VR ρ a v/\∃k n,es[i]? =some (.mk k a n)
 |_,_=>False
def po{d:TypeDesc}{x y:AV}{v u:Value}{r:Bool}{f:Nat}(hd:d= .bool∨(∃j,d= .int j)∨d= .string)(hx:VR ρ x v)(hy:VR ρ y u)(h:dZ P (f+1) d x y=some r):Instr.sameNow d v u=some r:=by
 rcases hd with rfl|⟨j,rfl⟩|rfl
 ·cases x <;> first|(simp [dZ] at h;done)|skip
  cases y <;> first|(simp [dZ] at h;done)|skip
  cases hx;cases hy;injection h with h;subst h;rfl
 ·cases x <;> first|(simp [dZ] at h;done)|skip
  cases y <;> first|(simp [dZ] at h;done)|skip
  cases hx;cases hy;rename_i k1 a k2 b;exact(show(if k1=k2 then some (a==b) else none)=some r from h)
 ·cases x <;> first|(simp [dZ] at h;done)|skip
  cases y <;> first|(simp [dZ] at h;done)|skip
  cases hx;cases hy;injection h with h;subst h;rw[gq, ←beq_toListBytes];rfl
def FR.cons{es:List ME}{ess:List MapEntry}{x:ME}{e:MapEntry}{r:Option (Nat×AV)}{r':Option (Nat×Value)}{i:Nat}(h:FR ρ es ess (r.map λp=>(p.1-(i+1),p.2)) (r'.map λp=>(p.1-(i+1),p.2)))(hr:∀p,r=some p->i+1<=p.1)(hr':∀p,r'=some p->i+1<=p.1):
 FR ρ (x::es) (e::ess) (r.map λp=>(p.1-i,p.2)) (r'.map λp=>(p.1-i,p.2)):=by
 cases r with
 |none=>cases r' with
  |none=>trivial
  |some p'=>exact h.elim
 |some p=>
  cases r' with
  |none=>exact h.elim
  |some p'=>
   obtain⟨h1,h2,k,n,h3⟩:=h
   have a:=hr p rfl
   have b:=hr' p' rfl
   refine⟨by show p.1-i=p'.1-i;omega,h2,k,n, ?_⟩
   show(x::es)[p.1-i]? =_
   rw[show p.1-i=(p.1-(i+1))+1 by omega]
   simpa using h3
def wM{q:AV->AV->Option Bool}{key:AV}:∀(es:List ME) (i:Nat) (r:Option (Nat×AV)),fc q key es i=some r->∀p,r=some p->i<=p.1:=by
 intro es
 induction es with
 |nil=>intro i r h p hp;simp only [fc] at h;injection h with h;subst h;cases hp
 |cons x es ih=>
  intro i r h p hp
  cases x with
  |mk k v n=>
   simp only [fc] at h;split at h
   ·injection h with h;subst h;injection hp with hp;subst hp;exact aab _
   ·have:=ih _ _ h p hp;omega
   ·cases h
def nx{d:TypeDesc}{f:Nat}(hd:d= .bool∨(∃j,d= .int j)∨d= .string){key:AV}{kv:Value}(hk:VR ρ key kv):∀(es:List ME) (ess:List MapEntry) (i:Nat) (r:Option (Nat×AV)),MR ρ es ess->fc (dZ P (f+1) d) key es i=some r->
 ∃r',Instr.findNow d kv ess i=some r'/\(∀p,r'=some p->i<=p.1)/\FR ρ es ess (r.map λp=>(p.1-i,p.2)) (r'.map λp=>(p.1-i,p.2)):=by
 intro es
 induction es with
 |nil=>intro ess i r hm h;simp only [fc] at h;injection h with h;subst h;rw[hm.nil_inv];exact⟨none,rfl,λp hp=>(by cases hp),trivial⟩
 |cons x es ih=>
  intro ess i r hm h
  cases x with
  |mk k v n=>
   obtain⟨e,K',rfl,h1,h2,h3,h4⟩:=hm.cons_inv
   simp only [fc] at h
   split at h
   ·rename_i hq;injection h with h;subst h;refine⟨some (i,e.val),by simp [Instr.findNow,po hd hk h1 hq],λp hp=>by injection hp with hp;subst hp;exact aab _, ?_⟩;exact⟨rfl,h2,k,n,by simp⟩
   ·rename_i hq;obtain⟨r',q1,q2,q3⟩:=ih K' (i+1) r h4 h;refine⟨r',by simp [Instr.findNow,po hd hk h1 hq,q1],λp hp=>by have:=q2 p hp;omega, ?_⟩;exact FR.cons q3 (λp hp=>wM _ _ _ h p hp) q2
   ·cases h
def iW{kt:TypeId}{d:TypeDesc}(hu:P.underlying kt=some d)(hc:bH d=true->e_ P 8 kt=true){key:AV}{kv:Value}(hk:VR ρ key kv):∀(es:List ME) (ess:List MapEntry) (i:Nat) (r:Option (Nat×AV)),MR ρ es ess->fc (dZ P 16 d) key es i=some r->
 ∃r',(Instr.findAsking kt kv ess i).run P w= .ok r' w/\(∀p,r'=some p->i<=p.1)/\FR ρ es ess (r.map λp=>(p.1-i,p.2)) (r'.map λp=>(p.1-i,p.2)):=by
 intro es
 induction es with
 |nil=>intro ess i r hm h;simp only [fc] at h;injection h with h;subst h;rw[hm.nil_inv];exact⟨none,rfl,λp hp=>(by cases hp),trivial⟩
 |cons x es ih=>
  intro ess i r hm h
  cases x with
  |mk k v n=>
   obtain⟨e,K',rfl,h1,h2,h3,h4⟩:=hm.cons_inv
   simp only [fc] at h
   split at h
   ·rename_i hq;injection h with h;subst h;have:=jw (P:=P) (w:=w) 16 8 kt d key k kv e.key true Op.maxDepth hu hc hk h1 hq (by decide);refine⟨some (i,e.val),by simp [Instr.findAsking,Op.equal,this],λp hp=>by injection hp with hp;subst hp;exact aab _, ?_⟩;exact⟨rfl,h2,k,n,by simp⟩
   ·rename_i hq;have:=jw (P:=P) (w:=w) 16 8 kt d key k kv e.key false Op.maxDepth hu hc hk h1 hq (by decide);obtain⟨r',q1,q2,q3⟩:=ih K' (i+1) r h4 h;refine⟨r',by simp [Instr.findAsking,Op.equal,this,q1],λp hp=>by have:=q2 p hp;omega, ?_⟩;exact FR.cons q3 (λp hp=>wM _ _ _ h p hp) q2
   ·cases h
def lD{kt:TypeId}{key:AV}{kv:Value}{es:List ME}{ess:List MapEntry}{f:Option (Nat×AV)->Tr}(hk:VR ρ key kv)(hm:MR ρ es ess)(h:run (v_ P kt key es f) σ K=true):
 ∃r r',run (f r) σ K=true/\FR ρ es ess r r'/\(Instr.findKey kt kv ess).run P w= .ok r' w/\∀em,(Instr.checkKey em 10000 kt kv).run P w= .ok () w:=by
 obtain⟨hkd,h⟩:=aj h
 obtain⟨W6,h⟩:=aj h
 obtain⟨d,hu,h⟩:=bp h
 obtain⟨r,hr,h⟩:=br h
 have ZK:∀{α:Type} (r:Option (Nat×α)),(r.map λp=>(p.1-0,p.2))=r:=λr=>by cases r <;> rfl
 have i9:=λem=>wL (w:=w) em 8 kt key kv 10000 W6 hk (by decide)
 by_cases hd:d= .bool∨(∃j,d= .int j)∨d= .string
 ·obtain⟨r',q1,_,q3⟩:=nx hd hk es ess 0 r hm hr;rw[ZK,ZK] at q3;refine⟨r,r',h,q3, ?_,i9⟩;simp [Instr.findKey,run_underlying hu,q1]
 ·obtain⟨r',q1,_,q3⟩:=iW (w:=w) hu (λ_=>rZ 8 kt hkd) hk es ess 0 r hm hr
  rw[ZK,ZK] at q3
  refine⟨r,r',h,q3, ?_,i9⟩
  have ac3:∀e o4,Instr.findNow d kv (e::o4) 0=none:=λe o4=>by
   have:Instr.sameNow d kv e.key=none:=by
    unfold Instr.sameNow;split
    ·exact absurd (.inr (.inl ⟨_,rfl⟩)) hd
    ·exact absurd (.inr (.inr rfl)) hd
    ·exact absurd (.inl rfl) hd
    ·rfl
   simp [Instr.findNow,this]
  cases ess with
  |nil=>
   have:r'=none:=by have:Result.ok none w=Result.ok r' w:=q1;injection this with e;exact e.symm
   subst this;simp [Instr.findKey,run_underlying hu,Instr.findNow]
  |cons e o4=>simp [Instr.findKey,run_underlying hu,ac3,q1]
def Hg{kt:TypeId}{d:TypeDesc}{Yz key:AV}{kv:Value}{es:List ME}{ess:List MapEntry}{r:Option (Nat×AV)}(hkd:vW P 8 kt=true)(W6:vX P 8 kt Yz=true)(hu:P.underlying kt=some d)(hk0:VR ρ Yz kv)(hk:VR ρ key kv)(hm:MR ρ es ess)(hr:fc (dZ P 16 d) key es 0=some r):
 ∃r',FR ρ es ess r r'/\(Instr.findKey kt kv ess).run P w= .ok r' w/\∀em,(Instr.checkKey em 10000 kt kv).run P w= .ok () w:=by
 have ZK:∀{α:Type} (r:Option (Nat×α)),(r.map λp=>(p.1-0,p.2))=r:=λr=>by cases r <;> rfl
 have i9:=λem=>wL (w:=w) em 8 kt Yz kv 10000 W6 hk0 (by decide)
 by_cases hd:d= .bool∨(∃j,d= .int j)∨d= .string
 ·obtain⟨r',q1,_,q3⟩:=nx hd hk es ess 0 r hm hr;rw[ZK,ZK] at q3;refine⟨r',q3, ?_,i9⟩;simp [Instr.findKey,run_underlying hu,q1]
 ·obtain⟨r',q1,_,q3⟩:=iW (w:=w) hu (λ_=>rZ 8 kt hkd) hk es ess 0 r hm hr
  rw[ZK,ZK] at q3
  refine⟨r',q3, ?_,i9⟩
  have ac3:∀e o4,Instr.findNow d kv (e::o4) 0=none:=λe o4=>by
   have:Instr.sameNow d kv e.key=none:=by
    unfold Instr.sameNow;split
    ·exact absurd (.inr (.inl ⟨_,rfl⟩)) hd
    ·exact absurd (.inr (.inr rfl)) hd
    ·exact absurd (.inl rfl) hd
    ·rfl
   simp [Instr.findNow,this]
  cases ess with
  |nil=>
   have:r'=none:=by have:Result.ok none w=Result.ok r' w:=q1;injection this with e;exact e.symm
   subst this;simp [Instr.findKey,run_underlying hu,Instr.findNow]
  |cons e o4=>simp [Instr.findKey,run_underlying hu,ac3,q1]
def b_:List IntKind->List Int->List AV
 |k::ks,n::ns=>.int k n::b_ ks ns
 |_,_=>[]
def pp:∀{ks:List IntKind} {xs:List AV} {ns:List Int},bP ks xs=some ns->xs.map rR=b_ ks ns/\ns.length=ks.length
 | [],xs,ns,h=>by obtain⟨rfl,rfl⟩:=eT h;exact⟨rfl,rfl⟩
 |j::ks,xs,ns,h=>by obtain⟨a,as,n,m,rfl,rfl,ha,h'⟩:=dC h;obtain⟨q1,q2⟩:=pp h';exact⟨by simp [b_,ha,q1],by simp [q2]⟩
def pq:∀{ks:List IntKind} {ns:List Int},ns.length=ks.length->bP ks (b_ ks ns)=some ns/\(b_ ks ns).map rR=b_ ks ns
 | [],[],_=>⟨rfl,rfl⟩
 |j::ks,n::ns,h=>by obtain⟨q1,q2⟩:=pq (ks:=ks) (ns:=ns) (by simpa using h);refine⟨?_,by simp [b_,rR,q2]⟩;simp [b_,bP,bD,q1,ak]
 | [],_::_,h=>by simp at h
 |_::_,[],h=>by simp at h
def D_:∀(n:Nat) (g:G) (j:Nat),(cK n g j).length=n:=by
 intro n
 induction n with
 |zero=>intro g j;rfl
 |succ n ih=>intro g j;simp [cK,ih]
def Ea:∀(ks:List IntKind) (g:G) (j:Nat),(ku ks g j).map rR=b_ ks (cK ks.length g j):=by
 intro ks
 induction ks with
 |nil=>intro g j;rfl
 |cons k ks ih=>intro g j;simp [ku,cK,b_,rR,ih]
def Lp{pre gs:List G}{j:Nat}:ah (.node (pre++gs)) (pre.length+j)=ah (.node gs) j:=by show(pre++gs).getD (pre.length+j) (.int 0)=gs.getD j (.int 0);simp only [aai];rw[aaG (by omega)];congr 2;omega
def Eb:∀(ns pre vs:List Int) (gs:List G),cK ns.length (.node ((pre++ns).map G.int++gs)) pre.length=ns:=by
 intro ns
 induction ns with
 |nil=>intro pre vs gs;rfl
 |cons n ns ih=>intro pre vs gs;have h1:=ih (pre++ [n]) vs gs;simp only [aaJ,List.singleton_append,aal,Zx] at h1;simp only [aaM,cK];rw[h1];congr 1;show gI (((pre++n::ns).map G.int++gs).getD pre.length (.int 0))=n;simp [aai,gI]
def mM{ks:Nat}{ns:List Int}{gs:List G}(h:ns.length=ks):cK ks (.node (ns.map G.int++gs)) 0=ns:=by subst h;exact Eb ns [] [] gs
def gZ(m:Nat)(ns:List Int):AV:=O9 (bo m).ka (b_ (bo m).ks ns)
def Lq{m:Nat}{ix:AV}{u:Value}{ns:List Int}(h:Ph m ix=some ns)(hx:VR ρ ix u):VR ρ (gZ m ns) u/\ns.length=(bo m).ks.length:=by
 unfold Ph at h;unfold gZ;split at h
 ·rename_i xs W6
  rw[W6]
  obtain⟨q1,q2⟩:=pp h
  refine⟨?_,q2⟩
  cases hx with
  |agg _ cs h1 h2=>have:=tX (LR.of_arr h1 h2);rw[q1] at this;obtain⟨r1,r2⟩:=this.arr;exact .agg _ _ r1 r2
 ·cases h
 ·rename_i W6;rw[W6];obtain⟨q1,q2⟩:=pp h;refine⟨?_,q2⟩;rw[←q1];exact zI hx
def wN{m:Nat}{g:G}{u:Value}(hx:VR ρ (kY m g) u):VR ρ (gZ m (cK (bo m).ks.length g 0)) u:=by
 unfold kY at hx
 unfold gZ
 have e:=Ea (bo m).ks g 0
 rw[←e]
 cases W6:(bo m).ka with
 |true=>
  rw[W6] at hx
  cases hx with
  |agg _ cs h1 h2=>obtain⟨r1,r2⟩:=(tX (LR.of_arr h1 h2)).arr;exact .agg _ _ r1 r2
 |false=>
  rw[W6] at hx
  cases hl:ku (bo m).ks g 0 with
  |nil=>rw[hl] at hx;exact hx
  |cons a l=>rw[hl] at hx;exact zI hx
def Lr{m:Nat}{d:TypeDesc}{a b:List Int}(hd:DO P m d=true)(ha:a.length=(bo m).ks.length)(hb:b.length=(bo m).ks.length):dZ P 16 d (gZ m a) (gZ m b)=some (decide (a=b)):=by
 unfold DO at hd;unfold gZ;obtain⟨a1,a2⟩:=pq ha;obtain⟨b1,b2⟩:=pq hb;split at hd
 ·rename_i W6;rw[W6];split at hd
  ·rename_i ks hk;have hd:=of_decide_eq_true hd;subst hd;have:=wo (f:=14) hk a1 b1;rw[a2,b2] at this;exact this
  ·cases hd
 ·rename_i W6;rw[W6];split at hd
  ·rename_i j
   have hd:=of_decide_eq_true hd
   rw[hd] at ha hb⊢
   match a,b,ha,hb with
   | [x],[y],_,_=>show dZ P 16 (.int j) (.int j x) (.int j y)=_;simp [dZ];by_cases h:x=y <;> simp [h]
  ·cases hd
def Ec{m:Nat}{ns:List Int}:bj 8 (O9 true (b_ (bo m).ks ns)) (O9 true (b_ (bo m).ks ns))=true:=by
 have:∀(ks:List IntKind) (ns:List Int),bj.sameAll (bj 7) (b_ ks ns) (b_ ks ns)=true:=by
  intro ks
  induction ks with
  |nil=>intro ns;cases ns <;> rfl
  |cons k ks ih=>
   intro ns
   cases ns with
   |nil=>rfl
   |cons n ns=>show aa (bj 7 (.int k n) (.int k n)) (bj.sameAll (bj 7) (b_ ks ns) (b_ ks ns)) false=true;rw[ih];simp [bj,ak]
 exact this _ _
def Ed{m:Nat}{d:TypeDesc}{ns:List Int}(hd:DO P m d=true)(ha:ns.length=(bo m).ks.length):bj 8 (gZ m ns) (gZ m ns)=true:=by
 unfold DO at hd;unfold gZ;split at hd
 ·rename_i W6;rw[W6];exact Ec
 ·rename_i W6;rw[W6];split at hd
  ·rename_i j
   have hd:=of_decide_eq_true hd
   rw[hd] at ha⊢
   match ns,ha with
   | [x],_=>show bj 8 (.int j x) (.int j x)=true;simp [bj,ak]
  ·cases hd
def RT(m:Nat):List G->List MapEntry->List ME
 |g::l,e::es=>.mk (gZ m (cK (bo m).ks.length g 0)) (iw m g) e.born::RT m l es
 |_,_=>[]
def Hh{m:Nat}:∀(l:List G) (ess:List MapEntry),ess.length=l.length->(∀(i:Nat) (g:G) (e:MapEntry),l[i]? =some g->ess[i]? =some e->VR ρ (kY m g) e.key/\VR ρ (iw m g) e.val)->MR ρ (RT m l ess) ess
 | [],[],_,_=>MR.nil ρ
 |g::l,e::es,h,hr=>by obtain⟨q1,q2⟩:=hr 0 g e rfl rfl;exact MR.cons (wN q1) q2 rfl (Hh l es (by simpa using h) λi g' e' h1 h2=>hr (i+1) g' e' (by simpa using h1) (by simpa using h2))
 | [],_::_,h,_=>by simp at h
 |_::_,[],h,_=>by simp at h
def wO{m:Nat}{d:TypeDesc}{ns:List Int}(hd:DO P m d=true)(hn:ns.length=(bo m).ks.length):∀(l:List G) (ess:List MapEntry) (i:Nat),ess.length=l.length->
 fc (dZ P 16 d) (gZ m ns) (RT m l ess) i=some (if bT m l ns<l.length then some (i+bT m l ns,iw m (dA m l ns)) else none)
 | [],[],i,_=>by simp [RT,fc]
 |g::l,e::es,i,h=>by
  have ih:=wO hd hn l es (i+1) (by simpa using h);have he:=Lr hd hn (D_ (bo m).ks.length g 0);simp only [RT,fc,he];by_cases hg:cK (bo m).ks.length g 0=ns
  ·have hk:bT m (g::l) ns=0:=by simp [bT,List.findIdx_cons,hg]
   have hk2:dA m (g::l) ns=g:=by simp [dA,hk,aL]
   simp [hk,hk2,hg]
  ·have hk:bT m (g::l) ns=bT m l ns+1:=by simp [bT,List.findIdx_cons,hg]
   have hk2:dA m (g::l) ns=dA m l ns:=by simp [dA,hk,aL]
   rw[show decide (ns=cK (bo m).ks.length g 0)=false by simp [Ne.symm hg]];simp only [ih,hk,hk2,aaM,Nat.add_lt_add_iff_right];split
   ·congr 3;omega
   ·rfl
 | [],_::_,i,h=>by simp at h
 |_::_,[],i,h=>by simp at h
def wP{x:AV}{v:Value}{k1:Nat->Nat->List G->Tr}{k0:Tr}(hS:SI σ)(hG:Good w0 ρ σ.h w)(hx:VR ρ x v)(h:run (GA x k1 k0) σ K=true):
 (∃a8,run k0 a8 K=true/\SI a8/\a8.h=σ.h)∨∃(b m:Nat) (l:List G) (hm:Home) (ess:List MapEntry) (clock:Nat) (a8:St),run (k1 b m l) a8 K=true/\SI a8/\a8.h=σ.h/\v= .map (some hm.blk)/\ρ.at_ b 0=some hm/\Own ρ w0.heap.size hm.blk/\w.heap[hm.blk]? =some (.map ess.toArray clock)/\ess.length=l.length/\
  (∀(i:Nat) (g:G) (e:MapEntry),l[i]? =some g->ess[i]? =some e->VR ρ (kY m g) e.key/\VR ρ (iw m g) e.val)/\a8.h.get b=some (.smap m l):=by
 cases hx with
 |map b hm hh=>
  obtain⟨q,c7,hq,e1,b6,h⟩:=aT hS h
  cases q with
  |smap m l=>
   obtain⟨u0,g7,hB,o4,clock,c9,m8,Wy⟩:=hG.blk _ _ hq
   rw[hh] at g7;injection g7 with g7;subst g7
   exact .inr ⟨b,m,l,hm,o4.toList,clock,c7,h,b6,e1,rfl,hh,hB,by simpa using c9,by simpa using m8,λi g e h1 h2=>Wy i g e h1 (by simpa using h2),by rw[e1];exact hq⟩
  |_=>exact .inl ⟨c7,h,b6,e1⟩
 |_=>exact .inl ⟨σ,h,hS,rfl⟩
def wQ{m:Nat}{kt:TypeId}{ix:AV}{u:Value}{kk:List Int->Tr}{l:List G}{ess:List MapEntry}(XP:VR ρ ix u)(hlen:ess.length=l.length)(Wy:∀(i:Nat) (g:G) (e:MapEntry),l[i]? =some g->ess[i]? =some e->VR ρ (kY m g) e.key/\VR ρ (iw m g) e.val)(h:run (GB P m kt ix kk) σ K=true):
 ∃ns r',run (kk ns) σ K=true/\ns.length=(bo m).ks.length/\VR ρ (gZ m ns) u/\bj 8 (gZ m ns) (gZ m ns)=true/\FR ρ (RT m l ess) ess (if bT m l ns<l.length then some (bT m l ns,iw m (dA m l ns)) else none) r'/\
  (Instr.findKey kt u ess).run P w= .ok r' w/\∀em,(Instr.checkKey em 10000 kt u).run P w= .ok () w:=by
 obtain⟨hkd,z1⟩:=aj h
 obtain⟨W6,z2⟩:=aj z1
 obtain⟨d,hu,z3⟩:=bp z2
 obtain⟨hd,z4⟩:=aj z3
 obtain⟨ns,hns,z5⟩:=br z4
 obtain⟨q1,q2⟩:=Lq hns XP
 have hf:=wO hd q2 l ess 0 hlen
 obtain⟨r',f1,f2,f3⟩:=Hg (w:=w) hkd W6 hu XP q1 (Hh l ess hlen Wy) hf
 exact⟨ns,r',z5,q2,q1,Ed hd q2,by simpa using f1,f2,f3⟩
def wR{x:AV}{v:Value}{f:List ME->Tr}(hS:SI σ)(hG:Good w0 ρ σ.h w)(hx:VR ρ x v)(h:run (vY x f) σ K=true):
 ∃es ess a8,run (f es) a8 K=true/\SI a8/\a8.h=σ.h/\MR ρ es ess/\
  (v= .map none/\ess= []∨∃r clock,v= .map (some r)/\w.heap[r]? =some (.map ess.toArray clock)):=by
 cases hx with
 |nilm=>exact⟨[],[],σ,h,hS,rfl,MR.nil ρ,.inl ⟨rfl,rfl⟩⟩
 |map b hm hh=>
  obtain⟨q,c7,hq,e1,b6,h⟩:=aT hS h
  cases q with
  |mapo es clock=>
   obtain⟨u0,g7,hB,o4,c9,W1⟩:=(hG.blk _ _ hq).mapo_MR
   rw[hh] at g7;injection g7 with g7;subst g7
   exact⟨es,o4.toList,c7,h,b6,e1,W1,.inr ⟨hm.blk,clock,rfl,by simpa using c9⟩⟩
  |_=>exact(ac h).elim
 |_=>exact(ac h).elim
def wS{t:TypeId}{x ix:AV}{v u:Value}{ok:Bool}(hS:SI σ)(hG:Good w0 ρ σ.h w)(hx:VR ρ x v)(hy:VR ρ ix u)(h:run (wc P t x ix ok k) σ K=true):Res P w0 ρ w k K (Instr.lookup t v u ok):=by
 obtain⟨d,hu,h⟩:=bp h
 cases d with
 |map kt e=>
  obtain⟨es,ess,c7,h,b6,e1,hm,hv⟩:=wR hS hG hx h
  have b9:Good w0 ρ c7.h w:=by rw[e1];exact hG
  obtain⟨r,r',h,V',n9,i9⟩:=lD (w:=w) hy hm h
  have tup:∀{a:AV} {c:Value} (b:Bool),VR ρ a c->VR ρ (.tup [a,.bool b]) (.tuple #[c,.bool b]):=λb hr=>
   .tup _ _ rfl λi a' v' ha hv=>by
    rcases i with _|_|i
    ·simp at ha hv;subst ha;subst hv;exact hr
    ·simp at ha hv;subst ha;subst hv;exact .bool _
    ·simp at ha
  have model:∀(s:Sem Value),(Instr.lookup t v u ok).run P w=s.run P w->Res P w0 ρ w k K s->Res P w0 ρ w k K (Instr.lookup t v u ok):=λs e hr=>hr.of_eq e
  have hlk:(Instr.lookup t v u ok).run P w=(do
   let(c,o) ←match r' with
    |some (_,c)=>pure (c,true)
    |none=>pure (←zeroValue e,false)
   pure (if ok then Value.tuple #[c,.bool o] else c):Sem Value).run P w:=by
   rcases hv with⟨rfl,rfl⟩|⟨b,clock,rfl,hb⟩
   ·simp [Instr.lookup,run_underlying hu,i9,n9];rfl
   ·simp [Instr.lookup,run_underlying hu,i9,n9,aC hb (by simp)];rfl
  refine model _ hlk ?_
  cases r with
  |none=>
   cases r' with
   |some p=>exact V'.elim
   |none=>
    obtain⟨z,zv,i,_,hz,WN,h⟩:=j_ ρ w h;rcases bf h with⟨hb,h⟩|⟨hb,h⟩
    ·exact .plain h b6 b9 (tup false WN) (by simp [hz,hb])
    ·exact .plain h b6 b9 WN (by simp [hz,hb])
  |some p=>
   cases r' with
   |none=>exact V'.elim
   |some p'=>
    obtain⟨i,a⟩:=p;obtain⟨j,c⟩:=p';obtain⟨_,hr,_⟩:=V';rcases bf h with⟨hb,h⟩|⟨hb,h⟩
    ·exact .plain h b6 b9 (tup true hr) (by simp [hb])
    ·exact .plain h b6 b9 hr (by simp [hb])
 |_=>exact(ac h).elim
def zX{t:TypeId}{x ix:AV}{v u:Value}{ok:Bool}(hS:SI σ)(hG:Good w0 ρ σ.h w)(hx:VR ρ x v)(hy:VR ρ ix u)(h:run (By P t x ix ok k) σ K=true):Res P w0 ρ w k K (Instr.lookup t v u ok):=by
 rcases wP hS hG hx h with⟨c7,z,b6,e1⟩|⟨b,m,l,hm,ess,clock,c7,z,b6,e1,rfl,hh,hB,c9,hlen,Wy,hq⟩
 ·exact wS b6 (by rw[e1];exact hG) hx hy z
 ·have b9:Good w0 ρ c7.h w:=by rw[e1];exact hG
  obtain⟨d,hu,z1⟩:=bp z
  cases d with
  |map kt e=>
   obtain⟨ns,r',z2,hn,hk,_,V',n9,i9⟩:=wQ (w:=w) hy hlen Wy z1;have tup:∀{a:AV} {c:Value} (b:Bool),VR ρ a c->VR ρ (.tup [a,.bool b]) (.tuple #[c,.bool b]):=λb hr=>
    .tup _ _ rfl λi a' v' ha hv=>by
     rcases i with _|_|i
     ·simp at ha hv;subst ha;subst hv;exact hr
     ·simp at ha hv;subst ha;subst hv;exact .bool _
     ·simp at ha
   have hlk:(Instr.lookup t (.map (some hm.blk)) u ok).run P w=(do
    let(c,o) ←match r' with
     |some (_,c)=>pure (c,true)
     |none=>pure (←zeroValue e,false)
    pure (if ok then Value.tuple #[c,.bool o] else c):Sem Value).run P w:=by
    simp [Instr.lookup,run_underlying hu,i9,n9,aC c9 (by simp)]
    rfl
   refine Res.of_eq ?_ hlk;rcases bU z2 with⟨s8,z3⟩|⟨s8,z3⟩
   ·have s8:bT m l ns<l.length:=s8
    rw[if_pos s8] at V'
    cases r' with
    |none=>exact V'.elim
    |some p'=>
     obtain⟨j,c⟩:=p';obtain⟨_,hr,_⟩:=V';rcases bf z3 with⟨hb,z4⟩|⟨hb,z4⟩
     ·exact .plain z4 b6 b9 (tup true hr) (by simp [hb])
     ·exact .plain z4 b6 b9 hr (by simp [hb])
   ·have s8:¬bT m l ns<l.length:=s8
    rw[if_neg s8] at V'
    cases r' with
    |some p=>exact V'.elim
    |none=>
     obtain⟨z,zv,i,_,hz,WN,z4⟩:=j_ ρ w z3;rcases bf z4 with⟨hb,z5⟩|⟨hb,z5⟩
     ·exact .plain z5 b6 b9 (tup false WN) (by simp [hz,hb])
     ·exact .plain z5 b6 b9 WN (by simp [hz,hb])
  |_=>exact(ac z1).elim
def iX:∀(f:Nat) (x y:AV) (v u:Value) (N:Nat),bj f x y=true->VR ρ x v->VR ρ y u->f<=N->Instr.sameBits N v u=true:=by
 intro f
 induction f with
 |zero=>intro x y v u N h;simp [bj] at h
 |succ f ih=>
  intro x y v u N h hx hy hN;obtain⟨N,rfl⟩:∃N',N=N'+1:=⟨N-1,by omega⟩
  unfold bj at h;split at h
  ·cases hx;cases hy;simpa [Instr.sameBits] using h
  ·rename_i j a j' b;cases hx;cases hy;obtain⟨h1,h2⟩:=az h;simp at h1 h2;simp [Instr.sameBits,h1,h2]
  ·cases hx;cases hy;rw[gq, ←beq_toListBytes] at h;simpa [Instr.sameBits] using h
  ·rename_i a b
   cases hx with
   |agg _ cs h1 h2=>
    cases hy with
    |agg _ ds k1 k2=>
     have lx:=LR.of_arr h1 h2;have ly:=LR.of_arr k1 k2;have key:∀(a b:List AV) (vs us:List Value),LR ρ a vs->LR ρ b us->bj.sameAll (bj f) a b=true->vs.length=us.length/\((vs.zip us).all λ(x,y)=>Instr.sameBits N x y)=true:=by
      intro a
      induction a with
      |nil=>
       intro b vs us la lb h
       cases b with
       |nil=>rw[la.nil_inv,lb.nil_inv];exact⟨rfl,rfl⟩
       |cons _ _=>simp [bj.sameAll] at h
      |cons x a iha=>
       intro b vs us la lb h
       cases b with
       |nil=>simp [bj.sameAll] at h
       |cons y b=>obtain⟨v1,o7,rfl,r1,la'⟩:=la.cons_inv;obtain⟨u1,us',rfl,r2,lb'⟩:=lb.cons_inv;have h:aa (bj f x y) (bj.sameAll (bj f) a b) false=true:=h;obtain⟨g1,g2⟩:=az h;obtain⟨q1,q2⟩:=iha b o7 us' la' lb' g2;refine⟨by simp [q1], ?_⟩;rw[List.zip_cons_cons,List.all_cons,Bool.and_eq_true];exact⟨ih x y v1 u1 N g1 r1 r2 (by omega),q2⟩
     obtain⟨q1,q2⟩:=key a b cs.toList ds.toList lx ly h;simp only [Instr.sameBits,Bool.and_eq_true];exact⟨by simpa using q1,q2⟩
  ·cases h
def lE{l:List ME}{f:List ME->Tr}:run (gQ l f) σ K=true->run (f l) σ K=true:=by
 have:∀(l:List ME) (f:List ME->Tr),run (gQ l f) σ K=run (f l) σ K:=by
  intro l
  induction l with
  |nil=>intro f;rfl
  |cons a l ih=>intro f;exact ih λl=>f (a::l)
 intro h;rw[this] at h;exact h
def jA{x:AV}{v:Value}{f:Nat->List ME->Nat->Tr}(hS:SI σ)(hG:Good w0 ρ σ.h w)(hx:VR ρ x v)(h:run (oT x f) σ K=true):
 ∃b hm es ess clock a8,run (f b es clock) a8 K=true/\SI a8/\a8.h=σ.h/\v= .map (some hm.blk)/\ρ.at_ b 0=some hm/\Own ρ w0.heap.size hm.blk/\w.heap[hm.blk]? =some (.map ess.toArray clock)/\MR ρ es ess/\a8.h.get b=some (.mapo es clock):=by
 cases hx with
 |map b hm hh=>
  obtain⟨q,c7,hq,e1,b6,h⟩:=aT hS h
  cases q with
  |mapo es clock=>
   obtain⟨u0,g7,hB,o4,c9,W1⟩:=(hG.blk _ _ hq).mapo_MR
   rw[hh] at g7;injection g7 with g7;subst g7
   exact⟨b,hm,es,o4.toList,clock,c7,h,b6,e1,rfl,hh,hB,by simpa using c9,W1,by rw[e1];exact hq⟩
  |_=>exact(ac h).elim
 |_=>exact(ac h).elim
def Good.setObjM{H:T ABlk}{b:Nat}{x0 x:ABlk}{h:Home}{o o':Obj}(hG:Good w0 ρ H w)(hb:H.get b=some x0)(d4:b+1<2 ^ 64)(hh:ρ.at_ b 0=some h)(hB:Own ρ w0.heap.size h.blk)(hw:w.heap[h.blk]? =some o)(hx:BR ρ w0.heap.size {w with heap:=w.heap.setIfInBounds h.blk o'} b x)(hgx:∀g,F6 g x:=by intro g;trivial)(hnf:¬tz x0)(hxo:∀k I l,x≠ .obj k I l:=by intro _ _ _ h;cases h):Good w0 ρ (H.set b x) {w with heap:=w.heap.setIfInBounds h.blk o'}:=by
 refine hG.turn (hnf:=hnf) (hxo:=hxo) (hrs:=⟨b,0,h,hh,rfl⟩) hb d4 h.blk hB ⟨rfl,rfl,rfl,by simp,λk hk ho=>?_⟩ (by simp) (λk hk _=>?_) (λb' g h' g7 e=>(hG.inj _ _ _ _ _ _ g7 hh e).1) hx (λg _=>hgx g)
 ·show(w.heap.setIfInBounds h.blk o')[k]? =_;rw[aaD,if_neg (λe=>by rcases hB with hB|hB;omega;exact ho (e▸hB))]
 ·show(w.heap.setIfInBounds h.blk o')[k]? =_;rw[aaD,if_neg (λe=>hk e.symm)]
def kI{b:Nat}{hm:Home}{Zq:List ME}{W7:List MapEntry}{c2:Nat}{o:Obj}{t:Tr}(hS:SI σ)(hG:Good w0 ρ σ.h w)(hh:ρ.at_ b 0=some hm)(hB:Own ρ w0.heap.size hm.blk)(c9:w.heap[hm.blk]? =some o)(ho:∀c t f,o≠ .cells c t f){xq:ABlk}(YQ:σ.h.get b=some xq)(hnq:¬tz xq)(WT:MR ρ Zq W7)(h:run (.wr b (.mapo Zq c2) t) σ K=true):∃a8,run t a8 K=true/\SI a8/\Good w0 ρ a8.h {w with heap:=w.heap.setIfInBounds hm.blk (.map W7.toArray c2)}/\(setObj hm.blk (.map W7.toArray c2)).run P w= .ok () {w with heap:=w.heap.setIfInBounds hm.blk (.map W7.toArray c2)}:=by
 obtain⟨x0,d5,A',e2,d8,d4,h⟩:=cr hS h
 refine⟨d5,h,d8, ?_, ?_⟩
 ·rw[e2];refine hG.setObjM (hnf:=nf rfl YQ A' hnq) A' d4 hh hB c9 (BR.of_MR hh hB ?_ WT);have:hm.blk<w.heap.size:=(hG.dom _ _ _ hh).1;show(w.heap.setIfInBounds hm.blk _)[hm.blk]? =_;rw[aaD,if_pos rfl,if_pos this]
 ·cases o <;> first|(exact absurd rfl (ho _ _ _))|(simp [setObj,Sem.run,c9])
def Ee{a b:AV}{c d:Value}(h1:VR ρ a c)(h2:VR ρ b d):VR ρ (.tup [a,b]) (.tuple #[c,d]):=
 .tup _ _ rfl λi a' v' ha hv=>by
  rcases i with _|_|i
  ·simp at ha hv;subst ha;subst hv;exact h1
  ·simp at ha hv;subst ha;subst hv;exact h2
  ·simp at ha
def Si{a b e:AV}{c d f:Value}(h1:VR ρ a c)(h2:VR ρ b d)(h3:VR ρ e f):VR ρ (.tup [a,b,e]) (.tuple #[c,d,f]):=
 .tup _ _ rfl λi a' v' ha hv=>by
  rcases i with _|_|_|i
  ·simp at ha hv;subst ha;subst hv;exact h1
  ·simp at ha hv;subst ha;subst hv;exact h2
  ·simp at ha hv;subst ha;subst hv;exact h3
  ·simp at ha
def pu{t:TypeId}{x ix y:AV}{v u z:Value}{kk:Tr}(hS:SI σ)(hG:Good w0 ρ σ.h w)(hx:VR ρ x v)(XP:VR ρ ix u)(hy:VR ρ y z)(h:run (nq P t x ix y kk) σ K=true):zF P w0 ρ w kk K (Instr.mapUpdate t v u z):=by
 obtain⟨d,hu,h⟩:=bp h
 cases d with
 |map kt e=>
  obtain⟨b,hm,es,ess,clock,c7,h,b6,e1,rfl,hh,hB,c9,W1,YQ⟩:=jA hS hG hx h
  have b9:Good w0 ρ c7.h w:=by rw[e1];exact hG
  obtain⟨r,r',h,V',n9,i9⟩:=lD (w:=w) XP W1 h
  cases r with
  |none=>
   cases r' with
   |some p=>exact V'.elim
   |none=>
    have h:=fg (lE h);have X8:MR ρ (es++ [.mk ix y clock]) (ess++ [⟨u,z,clock⟩]):=W1.append (MR.cons (e:=⟨u,z,clock⟩) XP hy rfl (MR.nil ρ));obtain⟨d5,h,d8,d9,b7⟩:=kI (P:=P) b6 b9 hh hB c9 (by simp) YQ (λh=>h) X8 h;refine⟨d5,_,h,d8,d9, ?_⟩;have ea:ess.toArray.push (⟨u,z,clock⟩:MapEntry)=(ess++ [(⟨u,z,clock⟩:MapEntry)]).toArray:=by apply Array.ext';simp
    simp only [Instr.mapUpdate,aaa,run_underlying hu,aC c9 (by simp),aad,i9,aaX,n9,ea];exact b7
  |some p=>
   cases r' with
   |none=>exact V'.elim
   |some p'=>
    obtain⟨i,av⟩:=p;obtain⟨j,cv⟩:=p';obtain⟨eij,_,ok,on,n8⟩:=V';have eij:i=j:=eij;subst eij;have n8:es[i]? =some (.mk ok av on):=n8;obtain⟨e,Y1,q1,q2,q3⟩:=W1.get n8;have h:run (match es[i]? with
     |some (.mk old _ _)=>aa (bj 8 old ix) (gQ (nl es i ix y) λes=>.wr b (.mapo es clock) kk) .fail
     |none=>.fail) c7 K=true:=h
    rw[n8] at h;obtain⟨o6,h⟩:=aj h;have h:=lE h;have X9:nl es i ix y=es.set i (.mk ix y on):=by simp only [nl,n8]
    rw[X9] at h;have X8:MR ρ (es.set i (.mk ix y on)) (ess.set i {e with key:=u,val:=z}):=W1.set XP hy q3;obtain⟨d5,h,d8,d9,b7⟩:=kI (P:=P) b6 b9 hh hB c9 (by simp) YQ (λh=>h) X8 h;refine⟨d5,_,h,d8,d9, ?_⟩;have XO:=iX 8 ok ix e.key u 10000 o6 q1 XP (by decide);have i3:ess.toArray[i]? =some e:=by simpa using Y1
    have ea:(ess.toArray.modify i λe=>{e with key:=u,val:=z})=(ess.set i {e with key:=u,val:=z}).toArray:=by
     apply Array.ext';apply abH;intro n;rw[aaP,abb,aaX,abp];by_cases en:i=n
     ·subst en;obtain⟨u5,o5⟩:=List.getElem?_eq_some_iff.1 Y1;simp [u5,o5]
     ·simp [en]
    simp only [Instr.mapUpdate,aaa,run_underlying hu,aC c9 (by simp),aad,i9,aaX,n9,Instr.keyThatStays,i3,aaQ,abC,XO,if_true,aac,ea];exact b7
 |_=>exact(ac h).elim
def Hi{m:Nat}{ns:List Int}{vs:List G}{u:Value}(hn:ns.length=(bo m).ks.length)(hk:VR ρ (gZ m ns) u):VR ρ (kY m (.node (ns.map G.int++vs))) u:=by
 have reI:∀(ks:List IntKind) (g:G) (j:Nat) (us:List Value),LR ρ (b_ ks (cK ks.length g j)) us->LR ρ (ku ks g j) us:=by
  intro ks
  induction ks with
  |nil=>intro g j us h;exact h
  |cons k ks ih=>intro g j us h;obtain⟨v,us',rfl,hv,h'⟩:=h.cons_inv;refine LR.cons ?_ (ih _ _ _ h');cases hv;exact .sI _ _
 have e:=mM (gs:=vs) hn
 unfold kY
 unfold gZ at hk
 rw[←e] at hk
 cases W6:(bo m).ka with
 |true=>
  rw[W6] at hk
  cases hk with
  |agg _ cs h1 h2=>obtain⟨r1,r2⟩:=(reI _ _ _ _ (LR.of_arr h1 h2)).arr;exact .agg _ _ r1 r2
 |false=>
  rw[W6] at hk
  cases hks:(bo m).ks with
  |nil=>rw[hks] at hk;exact hk
  |cons k ks=>rw[hks] at hk;have hk:VR ρ (.int k _) u:=hk;cases hk;exact .sI _ _
def Hj{m:Nat}{ns:List Int}{vs:List G}{y:AV}{z:Value}(hn:ns.length=(bo m).ks.length)(h:Pi m y=some vs)(hy:VR ρ y z):VR ρ (iw m (.node (ns.map G.int++vs))) z:=by
 unfold iw
 have hk:∀(gs:List G) (i:Nat),ah (.node (ns.map G.int++gs)) ((bo m).ks.length+i)=aL gs i:=λgs i=>by have:=Lp (pre:=ns.map G.int) (gs:=gs) (j:=i);rw[aaF,hn] at this;exact this
 unfold Pi at h
 cases ZZ:(bo m).va with
 |true=>
  rw[ZZ] at h
  cases y with
  |agg l=>
   have h:(match eM (bo m).vs l with|some (gs,[])=>some gs|_=>none)=some vs:=h;split at h
   ·rename_i gs hp
    injection h with h;subst h
    obtain⟨c1,f1,f2,f3⟩:=gU _ _ _ _ hp
    have f1:l=c1:=by simpa using f1
    subst f1
    cases hy with
    |agg _ cs h1 h2=>obtain⟨r1,r2⟩:=(f3.2 _ _ (λi _=>hk gs i) ρ _ (LR.of_arr h1 h2)).arr;exact .agg _ _ r1 r2
   ·cases h
  |_=>cases h
 |false=>
  rw[ZZ] at h;have h:(match eM (bo m).vs [y] with|some ([g],[])=>some [g]|_=>none)=some vs:=h;split at h
  ·rename_i g hp;injection h with h;subst h;obtain⟨c1,f1,f2,f3⟩:=gU _ _ _ _ hp;have f1: [y]=c1:=by simpa using f1
   subst f1;have:=f3.2 _ _ (λi _=>hk [g] i) ρ [z] (LR.cons hy (LR.nil ρ));obtain⟨a,ha⟩:∃a,aV (bo m).vs (.node (ns.map G.int++ [g])) (bo m).ks.length= [a]:=by
    have hl:(aV (bo m).vs (.node (ns.map G.int++ [g])) (bo m).ks.length).length=1:=by rw[←this.1];rfl
    match hd:aV (bo m).vs (.node (ns.map G.int++ [g])) (bo m).ks.length,hl with
    | [a],_=>exact⟨a,rfl⟩
   rw[ha] at this⊢;obtain⟨v,o7,e1,q,_⟩:=this.cons_inv;injection e1 with e1 _;subst e1;exact q
  ·cases h
def ki{t:TypeId}{x ix y:AV}{v u z:Value}{kk:Tr}(hS:SI σ)(hG:Good w0 ρ σ.h w)(hx:VR ρ x v)(XP:VR ρ ix u)(hy:VR ρ y z)(h:run (kA P t x ix y kk) σ K=true):zF P w0 ρ w kk K (Instr.mapUpdate t v u z):=by
 rcases wP hS hG hx h with⟨c7,z0,b6,e1⟩|⟨b,m,l,hm,ess,clock,c7,z0,b6,e1,rfl,hh,hB,c9,hlen,Wy,hq⟩
 ·exact pu b6 (by rw[e1];exact hG) hx XP hy z0
 have b9:Good w0 ρ c7.h w:=by rw[e1];exact hG
 obtain⟨d,hu,z1⟩:=bp z0
 cases d with
 |map kt e=>
  obtain⟨ns,r',z2,hn,hk,ae6,V',n9,i9⟩:=wQ (w:=w) XP hlen Wy z1;obtain⟨vs,l6,z3⟩:=br z2;obtain⟨x0,d5,A',e2,d8,d4,z4⟩:=cr b6 z3;have c8:hm.blk<w.heap.size:=(hG.dom _ _ _ hh).1;have k1:=Hi (vs:=vs) hn hk;have k2:=Hj hn l6 hy;have put:∀(W7:List MapEntry) (c2:Nat),W7.length=(cE m l ns vs).length->(∀(i:Nat) (g:G) (e:MapEntry),(cE m l ns vs)[i]? =some g->W7[i]? =some e->VR ρ (kY m g) e.key/\VR ρ (iw m g) e.val)->
   (Instr.mapUpdate t (.map (some hm.blk)) u z).run P w=(setObj hm.blk (.map W7.toArray c2)).run P w->zF P w0 ρ w kk K (Instr.mapUpdate t (.map (some hm.blk)) u z):=by
   intro W7 c2 h1 h2 h3
   refine⟨d5,{w with heap:=w.heap.setIfInBounds hm.blk (.map W7.toArray c2)},z4,d8, ?_, ?_⟩
   ·rw[e2];refine b9.setObjM (hnf:=nf rfl hq A' (λh=>h)) A' d4 hh hB c9 ⟨hm,hh,hB,W7.toArray,c2, ?_,by simpa using h1,λi g e g1 g2=>h2 i g e g1 (by simpa using g2)⟩;show(w.heap.setIfInBounds hm.blk _)[hm.blk]? =_;rw[aaD,if_pos rfl,if_pos c8]
   ·rw[h3];simp [setObj,Sem.run,c9]
  by_cases s8:bT m l ns<l.length
  ·rw[if_pos s8] at V'
   have ep:cE m l ns vs=l.set (bT m l ns) (.node (ns.map G.int++vs)):=by unfold cE;rw[if_pos s8]
   cases r' with
   |none=>exact V'.elim
   |some p'=>
    obtain⟨j,cv⟩:=p';obtain⟨eij,_,ok,on,n8⟩:=V';have eij:bT m l ns=j:=eij;have W3:ess[j]? =some ess[j]:=aah (by omega);have ZL:l[j]? =some l[j]:=aah (by omega);obtain⟨o1,o2⟩:=Wy j _ _ ZL W3;have hints:cK (bo m).ks.length l[j] 0=ns:=by have:=List.findIdx_getElem (p:=λg=>decide (cK (bo m).ks.length g 0=ns)) (xs:=l) (w:=s8);have:=of_decide_eq_true this;subst eij;exact this
    have okey:=wN o1;rw[hints] at okey;have XO:=iX 8 (gZ m ns) (gZ m ns) (ess[j]).key u 10000 ae6 okey hk (by decide);refine put (ess.set j {ess[j] with key:=u,val:=z}) clock (by rw[ep];simp [hlen]) (λi g e g1 g2=>?_) ?_
    ·rw[ep,abp] at g1;rw[abp] at g2;rw[eij] at g1;by_cases hji:j=i
     ·rw[if_pos hji] at g1 g2;split at g1
      ·injection g1 with g1;subst g1;split at g2
       ·injection g2 with g2;subst g2;exact⟨k1,k2⟩
       ·cases g2
      ·cases g1
     ·rw[if_neg hji] at g1 g2;exact Wy i g e g1 g2
    ·have i3:ess.toArray[j]? =some ess[j]:=by simpa using W3
     have ea:(ess.toArray.modify j λe=>{e with key:=u,val:=z})=(ess.set j {ess[j] with key:=u,val:=z}).toArray:=by
      apply Array.ext';apply abH;intro n;rw[aaP,abb,aaX,abp];by_cases en:j=n
      ·subst en;obtain⟨u5,o5⟩:=List.getElem?_eq_some_iff.1 W3;simp [u5]
      ·simp [en]
     simp only [Instr.mapUpdate,aaa,run_underlying hu,aC c9 (by simp),aad,i9,aaX,n9,Instr.keyThatStays,i3,aaQ,abC,XO,if_true,aac,ea]
  ·rw[if_neg s8] at V'
   have ep:cE m l ns vs=l++ [.node (ns.map G.int++vs)]:=by unfold cE;rw[if_neg s8]
   cases r' with
   |some p=>exact V'.elim
   |none=>
    refine put (ess++ [⟨u,z,clock⟩]) (clock+1) (by rw[ep];simp [hlen]) (λi g e g1 g2=>?_) ?_
    ·rw[ep] at g1;by_cases hi:i<l.length
     ·rw[aaB hi] at g1;rw[aaB (by omega)] at g2;exact Wy i g e g1 g2
     ·rw[aaG (by omega)] at g1
      rw[aaG (by omega),hlen] at g2
      match i-l.length,g1,g2 with
      |0,g1,g2=>injection g1 with g1;injection g2 with g2;subst g1;subst g2;exact⟨k1,k2⟩
      |_+1,g1,g2=>simp at g1
    ·have ea:ess.toArray.push (⟨u,z,clock⟩:MapEntry)=(ess++ [(⟨u,z,clock⟩:MapEntry)]).toArray:=by apply Array.ext';simp
     simp only [Instr.mapUpdate,aaa,run_underlying hu,aC c9 (by simp),aad,i9,aaX,n9,ea]
 |_=>exact(ac z1).elim
def ud{t:TypeId}{x ix:AV}{v u:Value}(hS:SI σ)(hG:Good w0 ρ σ.h w)(hx:VR ρ x v)(XP:VR ρ ix u)(h:run (rN P t x ix k) σ K=true):Res P w0 ρ w k K (Instr.mapEntry t v u):=by
 obtain⟨d,hu,h⟩:=bp h
 cases d with
 |map kt e=>
  obtain⟨b,hm,es,ess,clock,c7,h,b6,e1,rfl,hh,hB,c9,W1,YQ⟩:=jA hS hG hx h
  have b9:Good w0 ρ c7.h w:=by rw[e1];exact hG
  obtain⟨r,r',h,V',n9,i9⟩:=lD (w:=w) XP W1 h
  cases r with
  |none=>
   cases r' with
   |some p=>exact V'.elim
   |none=>
    obtain⟨z,zv,i,_,hz,WN,h⟩:=j_ ρ w h;have h:=fg (lE h);have X8:MR ρ (es++ [.mk ix z clock]) (ess++ [⟨u,zv,clock⟩]):=W1.append (MR.cons (e:=⟨u,zv,clock⟩) XP WN rfl (MR.nil ρ));obtain⟨d5,h,d8,d9,b7⟩:=kI (P:=P) b6 b9 hh hB c9 (by simp) YQ (λh=>h) X8 h;refine⟨_,d5,ρ,_,_,h,d8,d9,Rho.le.refl ρ,Ee WN (.int _ _), ?_⟩;have ea:ess.toArray.push (⟨u,zv,clock⟩:MapEntry)=(ess++ [(⟨u,zv,clock⟩:MapEntry)]).toArray:=by apply Array.ext';simp
    simp only [Instr.mapEntry,aaa,run_underlying hu,aC c9 (by simp),aad,i9,aaX,n9,hz,ea,b7,aac,goInt];rfl
  |some p=>
   cases r' with
   |none=>exact V'.elim
   |some p'=>
    obtain⟨i,av⟩:=p;obtain⟨j,cv⟩:=p';obtain⟨eij,hac,ok,on,n8⟩:=V';have eij:i=j:=eij;subst eij;have n8:es[i]? =some (.mk ok av on):=n8;obtain⟨e,Y1,q1,q2,q3⟩:=W1.get n8;subst q3;have h:run (match es[i]? with
     |some (.mk old _ n)=>aa (bj 8 old ix) (gQ (nl es i ix av) λes=>.wr b (.mapo es clock) (k (.tup [av,.int .i64 (.ofNat n)]))) .fail
     |none=>.fail) c7 K=true:=h
    rw[n8] at h;obtain⟨o6,h⟩:=aj h;have h:=lE h;have X9:nl es i ix av=es.set i (.mk ix av e.born):=by simp only [nl,n8]
    rw[X9] at h;have X8:MR ρ (es.set i (.mk ix av e.born)) (ess.set i {e with key:=u}):=W1.set XP q2 rfl;obtain⟨d5,h,d8,d9,b7⟩:=kI (P:=P) b6 b9 hh hB c9 (by simp) YQ (λh=>h) X8 h;refine⟨_,d5,ρ,_,_,h,d8,d9,Rho.le.refl ρ,Ee hac (.int _ _), ?_⟩;have XO:=iX 8 ok ix e.key u 10000 o6 q1 XP (by decide);have i3:ess.toArray[i]? =some e:=by simpa using Y1
    have ea:(ess.toArray.modify i λe=>{e with key:=u})=(ess.set i {e with key:=u}).toArray:=by
     apply Array.ext';apply abH;intro n;rw[aaP,abb,aaX,abp];by_cases en:i=n
     ·subst en;obtain⟨u5,o5⟩:=List.getElem?_eq_some_iff.1 Y1;simp [u5,o5]
     ·simp [en]
    simp only [Instr.mapEntry,aaa,run_underlying hu,aC c9 (by simp),aad,i9,aaX,n9,Instr.keyThatStays,i3,aaQ,abC,XO,if_true,aac,ea,b7,goInt];rfl
 |_=>exact(ac h).elim
def zY{n:Nat}{y:AV}{z:Value}(hy:VR ρ y z):∀(es:List ME) (ess:List MapEntry) (Zq:List ME),MR ρ es ess->lm n y es=some Zq->
 ∃i,ess.findIdx? (λe=>((e.born:Int)==(n:Int)))=some i/\MR ρ Zq (ess.modify i λe=>{e with val:=z}):=by
 intro es
 induction es with
 |nil=>intro ess Zq _ h;simp [lm] at h
 |cons x es ih=>
  intro ess Zq hm h
  cases x with
  |mk a b m=>
   obtain⟨e,K',rfl,h1,h2,h3,h4⟩:=hm.cons_inv
   simp only [lm] at h
   split at h
   ·rename_i emn;injection h with h;subst h;refine⟨0, ?_, ?_⟩
    ·simp [List.findIdx?_cons,h3,emn]
    ·simp only [List.modify_zero_cons];exact MR.cons h1 hy h3 h4
   ·rename_i emn;split at h
    ·rename_i l hl;injection h with h;subst h;obtain⟨i,q1,q2⟩:=ih K' l h4 hl;refine⟨i+1, ?_, ?_⟩
     ·rw[List.findIdx?_cons,q1];have:((e.born:Int)==(n:Int))=false:=by rw[h3];simp;omega
      rw[this];rfl
     ·rw[List.modify_succ_cons];exact MR.cons h1 h2 h3 q2
    ·cases h
def pw{t:TypeId}{x ix y:AV}{v u z:Value}{kk:Tr}(hS:SI σ)(hG:Good w0 ρ σ.h w)(hx:VR ρ x v)(XP:VR ρ ix u)(hy:VR ρ y z)(h:run (nr x ix y kk) σ K=true):zF P w0 ρ w kk K (Instr.entryStore t v u z):=by
 obtain⟨j,m,rfl,h⟩:=kC h;obtain⟨n,rfl,h⟩:=tT h;obtain⟨b,hm,es,ess,clock,c7,h,b6,e1,rfl,hh,hB,c9,W1,YQ⟩:=jA hS hG hx h;have b9:Good w0 ρ c7.h w:=by rw[e1];exact hG
 obtain⟨Zq,ah5,h⟩:=br h;cases XP;obtain⟨i,q1,q2⟩:=zY hy es ess Zq W1 ah5;obtain⟨d5,h,d8,d9,b7⟩:=kI (P:=P) b6 b9 hh hB c9 (by simp) YQ (λh=>h) q2 h;refine⟨d5,_,h,d8,d9, ?_⟩;have ea:(ess.toArray.modify i λe=>{e with val:=z})=(ess.modify i λe=>{e with val:=z}).toArray:=by apply Array.ext';apply abH;intro n;rw[aaP,abb,aaX,List.getElem?_modify];by_cases en:i=n <;> simp [en]
 have X_:ess.toArray.findIdx? (λe=>((e.born:Int)==(n:Int)))=some i:=by rw[List.findIdx?_toArray];exact q1
 simp only [Instr.entryStore,aaa,aC c9 (by simp),aad,asInt,asIntOf,aac,X_,ea];exact b7
def zZ:∀(es:List ME) (i:Nat),nY es i=es.eraseIdx i:=by
 intro es
 induction es with
 |nil=>intro i;rfl
 |cons x es ih=>
  intro i
  cases i with
  |zero=>rfl
  |succ i=>show x::nY es i=_;rw[ih];rfl
def MR.eraseIdx{es:List ME}{ess:List MapEntry}(h:MR ρ es ess)(i:Nat):MR ρ (es.eraseIdx i) (ess.eraseIdx i):=by
 induction es generalizing ess i with
 |nil=>rw[h.nil_inv];exact MR.nil ρ
 |cons x es ih=>
  cases x with
  |mk k v n=>
   obtain⟨e,K',rfl,h1,h2,h3,h4⟩:=h.cons_inv
   cases i with
   |zero=>exact h4
   |succ i=>exact MR.cons h1 h2 h3 (ih h4 i)
def z_{tys:Array TypeId}{ty:TypeId}{args:List AV}{vs:List Value}(hS:SI σ)(hG:Good w0 ρ σ.h w)(hl:LR ρ args vs)(h:run (tM P tys args k) σ K=true):Res P w0 ρ w k K (Builtin.delete_ tys ty vs.toArray):=by
 unfold tM at h;split at h
 ·rename_i t x key h0;obtain⟨v,YK,rfl,hv,u5⟩:=hl.cons_inv;obtain⟨u,ZJ,rfl,Z8,o5⟩:=u5.cons_inv;have:=o5.nil_inv;subst this;obtain⟨d,hu,h⟩:=bp h;split at h
  ·rename_i kt e
   obtain⟨b,hm,es,ess,clock,c7,h,b6,e1,rfl,hh,hB,c9,W1,YQ⟩:=jA hS hG hv h
   have b9:Good w0 ρ c7.h w:=by rw[e1];exact hG
   obtain⟨r,r',h,V',n9,i9⟩:=lD (w:=w) Z8 W1 h
   cases r with
   |none=>
    cases r' with
    |some p=>exact V'.elim
    |none=>obtain⟨d5,h,d8,d9,b7⟩:=kI (P:=P) b6 b9 hh hB c9 (by simp) YQ (λh=>h) W1 h;refine⟨_,d5,ρ,_,_,h,d8,d9,Rho.le.refl ρ,.tup [] #[] rfl (by simp), ?_⟩;simp [Builtin.delete_,h0,run_underlying hu,aC c9 (by simp),i9,n9,b7]
   |some p=>
    cases r' with
    |none=>exact V'.elim
    |some p'=>
     obtain⟨i,av⟩:=p;obtain⟨j,cv⟩:=p';obtain⟨eij,hac,ok,on,n8⟩:=V';have eij:i=j:=eij;subst eij;have h:=lE h;rw[zZ] at h;obtain⟨d5,h,d8,d9,b7⟩:=kI (P:=P) b6 b9 hh hB c9 (by simp) YQ (λh=>h) (W1.eraseIdx i) h;refine⟨_,d5,ρ,_,_,h,d8,d9,Rho.le.refl ρ,.tup [] #[] rfl (by simp), ?_⟩;have ea:ess.toArray.eraseIdxIfInBounds i=(ess.eraseIdx i).toArray:=by rw[List.eraseIdxIfInBounds_toArray]
     simp [Builtin.delete_,h0,run_underlying hu,aC c9 (by simp),i9,n9,ea,b7]
  ·exact(ac h).elim
 ·exact(ac h).elim
def Ef{t:TypeId}{x:AV}{v:Value}(hS:SI σ)(hG:Good w0 ρ σ.h w)(hx:VR ρ x v)(h:run (GC P t x k) σ K=true):Res P w0 ρ w k K (Instr.range t v):=by
 obtain⟨d,hu,h⟩:=bp h
 cases d with
 |string=>
  cases hx with
  |str s=>obtain⟨n,a8,hn,d4,g7,j7,h⟩:=cZ hS h;obtain⟨hle,g9⟩:=hG.alloc hn d4 (.siter (bytesOf s) 0) (.stringIter s 0) 0 0 (λρ' hle j5 _=>⟨_,j5,.new hG.below.size,s,rfl,by simp⟩);refine⟨_,a8,_,_,_,h,j7,by rw[g7];exact g9,hle,VR.ptr n 0 0 _ (Rho.put_at _ _ _ _) (aan _), ?_⟩;simp [Instr.range,run_underlying hu]
  |_=>exact(ac h).elim
 |map kt et=>
  cases hx with
  |nilm=>obtain⟨n,a8,hn,d4,g7,j7,h⟩:=cZ hS h;obtain⟨hle,g9⟩:=hG.alloc hn d4 (.miter none 0 [] 0) (.mapIter none 0 #[] 0) 0 0 (λρ' hle j5 _=>⟨_,j5,.new hG.below.size,none, #[],by simp,rfl,rfl⟩);refine⟨_,a8,_,_,_,h,j7,by rw[g7];exact g9,hle,VR.ptr n 0 0 _ (Rho.put_at _ _ _ _) (aan _), ?_⟩;simp [Instr.range,run_underlying hu]
  |map m hm hh=>
   obtain⟨q,c7,hq,e1,b6,h⟩:=aT hS h
   have b9:Good w0 ρ c7.h w:=by rw[e1];exact hG
   cases q with
   |mapo es clock=>obtain⟨u0,g7,hB,o4,c9,m8,_⟩:=hG.blk _ _ hq;rw[hh] at g7;injection g7 with g7;subst g7;obtain⟨n,a8,hn,d4,g7,j7,h⟩:=cZ b6 h;obtain⟨hle,g9⟩:=b9.alloc hn d4 (.miter (some m) clock [] clock) (.mapIter (some hm.blk) clock #[] clock) 0 0 (λρ' hle j5 _=>⟨_,j5,.new hG.below.size,some hm.blk, #[],by simp,rfl,hm,hle.at_ _ _ _ hh,rfl⟩);refine⟨_,a8,_,_,_,h,j7,by rw[g7];exact g9,hle,VR.ptr n 0 0 _ (Rho.put_at _ _ _ _) (aan _), ?_⟩;simp [Instr.range,run_underlying hu,aC c9 (by simp)]
   |_=>exact(ac h).elim
  |_=>exact(ac h).elim
 |_=>exact(ac h).elim
def Eg:∀(l:List Nat) (n:Nat),tN l n=l.contains n:=by
 intro l
 induction l with
 |nil=>intro n;rfl
 |cons a l ih=>
  intro n;show aa (Nat.beq a n) true (tN l n)=_;rw[ak,ih,List.contains_cons];by_cases e:a=n
  ·subst e;simp
  ·have h1:Nat.beq a n=false:=by
    cases hb:Nat.beq a n with
    |false=>rfl
    |true=>exact absurd (aae hb) e
   have h2:(n==a)=false:=by simpa using λh:n=a=>e h.symm
   rw[h1,h2];simp
def Hk{seen:List Nat}{since:Nat}:∀(es:List ME) (ess:List MapEntry) (left:List ME),MR ρ es ess->wd seen since es=some left->
 MR ρ left (ess.filter λe=>!seen.contains e.born)/\∀e∈ess,e.born<since:=by
 intro es
 induction es with
 |nil=>intro ess left hm h;simp only [wd] at h;injection h with h;subst h;rw[hm.nil_inv];exact⟨MR.nil ρ,by simp⟩
 |cons x es ih=>
  intro ess left hm h
  cases x with
  |mk a v n=>
   obtain⟨e,K',rfl,h1,h2,h3,h4⟩:=hm.cons_inv
   simp only [wd] at h
   split at h
   ·rename_i c8;split at h
    ·rename_i l hl;injection h with h;obtain⟨q1,q2⟩:=ih K' l h4 hl;refine⟨?_,λx hx=>?_⟩
     ·rw[List.filter_cons,h3, ←Eg]
      rw[ak] at h
      cases hb:tN seen n with
      |true=>rw[hb,if_pos rfl] at h;subst h;simpa using q1
      |false=>rw[hb,if_neg (by simp)] at h;subst h;exact MR.cons h1 h2 h3 q1
     ·rcases List.mem_cons.1 hx with e'|hx
      ·subst e';omega
      ·exact q2 x hx
    ·cases h
   ·cases h
def Hl{x:AV}{v:Value}{isS:Bool}{ty:TypeId}(hS:SI σ)(hG:Good w0 ρ σ.h w)(hx:VR ρ x v)(h:run (N_ x isS k) σ K=true):Res P w0 ρ w k K (Instr.next v isS ty):=by
 have ff:∀(ρ':Rho),VR ρ' (.tup [.bool false]) (.tuple #[.bool false]):=λρ'=>.tup _ _ rfl λi a v ha hv=>by
  cases i with
  |zero=>simp at ha hv;subst ha;subst hv;exact .bool _
  |succ i=>simp at ha
 cases hx with
 |ptr b g o hm hh ho=>
  cases g with
  |succ g=>exact(ac h).elim
  |zero=>
   cases o with
   |succ o=>exact(ac h).elim
   |zero=>
    obtain⟨q,c7,hq,e1,b6,h⟩:=aT hS h
    have b9:Good w0 ρ c7.h w:=by rw[e1];exact hG
    cases q with
    |siter s pos=>
     cases isS with
     |false=>exact(ac h).elim
     |true=>
      obtain⟨u0,g7,hB,s',hs',c9⟩:=hG.blk _ _ hq;rw[hh] at g7;injection g7 with g7;subst g7;subst hs';have hlen:=aM s';rcases bf h with⟨c8,h⟩|⟨c8,h⟩
      ·have c8:=aU c8;rw[hlen] at c8;have c8:pos<s'.size:=c8;have hc:(bytesOf s')[pos]? =some (s'[pos]'c8).toNat:=by
        unfold bytesOf;rw[aaE];have:s'.data.toList[pos]? =some (s'[pos]'c8):=by have h1:pos<s'.data.size:=c8;rw[aaP,aaK h1];rfl
        rw[this];rfl
       have h:run (match(bytesOf s')[pos]? with
        |some c=>aa (Nat.ble c 127) (fN (Nat.succ pos) λp=>.wr b (.siter (bytesOf s') p) (k (.tup [.bool true,.int .i64 (.ofNat pos),.int .i32 (.ofNat c)]))) .fail
        |none=>.fail) c7 K=true:=h
       rw[hc] at h;obtain⟨ha,h⟩:=aj h;have ha:=aU ha;have h:=fg h;obtain⟨x0,d5,A',e2,d8,d4,h⟩:=cr b6 h;have W4:hm.blk<w.heap.size:=(hG.dom _ _ _ hh).1;have d9:=b9.setObjM (hnf:=nf e1 hq A' (λh=>h)) (x:=.siter (bytesOf s') (pos+1)) (o':=.stringIter s' (pos+1)) A' d4 hh hB c9 ⟨hm,hh,hB,s',rfl,by show(w.heap.setIfInBounds hm.blk _)[hm.blk]? =_;rw[aaD,if_pos rfl,if_pos W4]⟩;have YA:=decode_ascii s' pos c8 (by omega);have X9:(setObj hm.blk (.stringIter s' (pos+1))).run P w= .ok () {w with heap:=w.heap.setIfInBounds hm.blk (.stringIter s' (pos+1))}:=by simp [setObj,Sem.run,c9]
       refine⟨_,d5,ρ,_,_,h,d8,by rw[e2];exact d9,Rho.le.refl ρ,Si (.bool _) (.int _ _) (.int _ _), ?_⟩;simp [Instr.next,aC c9 (by simp),c8,YA,X9,goInt]
      ·have c8:=Pk c8;rw[hlen] at c8;refine .plain h b6 b9 (ff _) ?_;have:¬pos<s'.size:=by omega
       simp [Instr.next,aC c9 (by simp),this]
    |miter m since seen stepped=>
     cases isS with
     |true=>cases m <;> exact(ac h).elim
     |false=>
      obtain⟨u0,g7,hB,m',u7,c9,Yq,WT⟩:=hG.blk _ _ hq
      rw[hh] at g7;injection g7 with g7;subst g7
      cases m with
      |none=>subst WT;exact .plain h b6 b9 (ff _) (by simp [Instr.next,aC c9 (by simp)])
      |some m=>
       obtain⟨hx,hhx,em⟩:=WT
       subst em
       obtain⟨q2,d5,YR,e2,d8,h⟩:=aT b6 h
       have d9:Good w0 ρ d5.h w:=by rw[e2];exact b9
       cases q2 with
       |mapo es clock=>
        obtain⟨hm3,Yr,hB3,o4,P',W1⟩:=(b9.blk _ _ YR).mapo_MR
        rw[hhx] at Yr;injection Yr with Yr;subst Yr
        obtain⟨hss,h⟩:=aj h
        have hss:=aU hss
        obtain⟨left,ae7,h⟩:=br h
        obtain⟨Zr,Y2⟩:=Hk es o4.toList left W1 ae7
        rw[←Yq] at Zr
        have hF:o4.filter (λe=>!u7.contains e.born)=(o4.toList.filter λe=>!u7.toList.contains e.born).toArray:=by apply Array.ext';simp
        generalize hL:(o4.toList.filter λe=>!u7.toList.contains e.born)=L at Zr hF
        have Z':∀e∈L,e.born<since:=λe he=>by rw[←hL] at he;exact Y2 e (List.mem_filter.1 he).1
        have hold:L.toArray.filter (λe=>decide (e.born<since))=L.toArray:=by apply Array.ext';rw[Array.toList_filter];exact List.filter_eq_self.2 λe he=>by simpa using Z' e he
        have j4:L.toArray.filter (λe=>decide (e.born≥since))= #[]:=by apply Array.ext';rw[Array.toList_filter];exact List.filter_eq_nil_iff.2 λe he=>by have:=Z' e he;simp;omega
        have hun:(!u7.isEmpty && !o4.isEmpty && o4.all λe=>decide (e.born≥stepped))=false:=by
         cases he:o4.isEmpty with
         |true=>simp
         |false=>
          have j0:0<o4.size:=by
           rcases aaR o4.size with e0|e0
           ·rw[Array.isEmpty_iff_size_eq_zero.2 e0] at he;cases he
           ·exact e0
          have:(o4.all λe=>decide (e.born≥stepped))=false:=by rw[Array.all_eq_false];refine⟨0,j0, ?_⟩;have:=Y2 o4[0] (by simp);simp;omega
          rw[this];simp
        have model:(Instr.next (.pointer (some ⟨hm.blk,0-hm.shift,none⟩)) false ty).run P w=
         ((do
          let i ←choose (.mapNext ((if L.toArray.isEmpty then #[none] else #[])++L.toArray.map some).size)
          match((if L.toArray.isEmpty then #[none] else #[])++L.toArray.map some)[i]? with
          |some (some e)=>
           setObj hm.blk (.mapIter (some hx.blk) since (u7.push e.born) clock)
           pure (.tuple #[.bool true,e.key,e.val])
          |some none=>pure (.tuple #[.bool false])
          |none=>stuck "Next: no such candidate" :Sem Value)).run P w:=by
         simp only [Instr.next,Nat.zero_sub,aaa,aC c9 (by simp),aad,aC P' (by simp),hun,Bool.false_eq_true,if_false,hF,hold,j4,Array.append_empty,aac]
         rfl
        refine Res.of_eq ?_ model
        cases left with
        |nil=>
         have:L= []:=Zr.nil_inv;subst this;by_cases hf:(Question.mapNext 1).forced=true
         ·refine⟨_,d5,ρ,.tuple #[.bool false],w,h,d8,d9,Rho.le.refl ρ,ff _, ?_⟩;simp [hf]
         ·exact absurd (by decide) hf
        |cons l0 lr=>
         have hLn:L≠ []:=λe=>by subst e;exact absurd Zr.1 (by simp)
         have ah6:L.toArray.isEmpty=false:=by cases L with|nil=>exact absurd rfl hLn|cons _ _=>rfl
         have h:=tS (n:=(l0::lr).length) h
         have hlen:(L.toArray.map some).size=(l0::lr).length:=by rw[Array.size_map];exact Zr.1
         have step:∀(i:Nat) (w2:World),w2.heap=w.heap->Good w0 ρ d5.h w2->run (bS (l0::lr)[i]? .fail λe=>(match e with
          | .mk key v n=>.wr b (.miter (some m) since (seen++ [n]) clock) (k (.tup [.bool true,key,v])))) d5 K=true->
          Res P w0 ρ w2 k K (match(L.toArray.map some)[i]? with
          |some (some e)=>(do
           setObj hm.blk (.mapIter (some hx.blk) since (u7.push e.born) clock)
           pure (.tuple #[.bool true,e.key,e.val]))
          |some none=>pure (.tuple #[.bool false])
          |none=>stuck "Next: no such candidate" :Sem Value):=by
          intro i w2 Yn hGw h
          obtain⟨x,hxi,h⟩:=br h
          cases x with
          |mk key v n=>
           obtain⟨e,he,r1,r2,r3⟩:=Zr.get hxi
           have he':(L.toArray.map some)[i]? =some (some e):=by simp [he]
           rw[he']
           obtain⟨x0,WO,A',e3,WP,d4,h⟩:=cr d8 h
           have Y3:w2.heap[hm.blk]? =some (.mapIter (some hx.blk) since u7 stepped):=by rw[Yn];exact c9
           have W4:hm.blk<w2.heap.size:=by rw[Yn];exact(hG.dom _ _ _ hh).1
           have B':=hGw.setObjM (hnf:=nf (e2.trans e1) hq A' (λh=>h)) (x:=.miter (some m) since (seen++ [n]) clock) (o':=.mapIter (some hx.blk) since (u7.push e.born) clock) A' d4 hh hB Y3 ⟨hm,hh,hB,some hx.blk,u7.push e.born,by show(w2.heap.setIfInBounds hm.blk _)[hm.blk]? =_;rw[aaD,if_pos rfl,if_pos W4],by rw[Array.toList_push,Yq,r3],hx,hhx,rfl⟩
           have X9:(setObj hm.blk (.mapIter (some hx.blk) since (u7.push e.born) clock)).run P w2= .ok () {w2 with heap:=w2.heap.setIfInBounds hm.blk (.mapIter (some hx.blk) since (u7.push e.born) clock)}:=by simp [setObj,Sem.run,Y3]
           refine⟨_,WO,ρ,_,_,h,WP,by rw[e3];exact B',Rho.le.refl ρ,Si (.bool _) r1 r2, ?_⟩
           simp [X9]
         simp only [ah6,Bool.false_eq_true,if_false,Array.empty_append]
         rw[hlen]
         cases hf:(Question.mapNext (l0::lr).length).forced with
         |true=>
          have o8:(l0::lr).length<=1:=by simpa [Question.forced] using hf
          refine(step 0 w rfl d9 (h 0 (.inl rfl) λ_=>rfl)).of_eq ?_;simp only [aaa,run_choose,hf,if_true,aad]
         |false=>have o8:¬(l0::lr).length<=1:=of_decide_eq_false hf;have hi:(Question.mapNext (l0::lr).length).cut (w.tape w.drawn (.mapNext (l0::lr).length))<(l0::lr).length:=Nat.mod_lt _ (by omega);obtain⟨av,a8,ρ',v',w',q1,q2,q3,q4,q5,q6⟩:=step _ {w with drawn:=w.drawn+1} rfl (d9.drawn _) (h _ (.inr hi) λhc=>absurd hc o8);refine⟨av,a8,ρ',v',w',q1,q2,q3,q4,q5, ?_⟩;simp only [aaa,run_choose,hf,Bool.false_eq_true,if_false,aad];exact q6
       |_=>exact(ac h).elim
    |_=>exact(ac h).elim
 |_=>exact(ac h).elim
def wT{n:Nat}:∀(es:List ME) (ess:List MapEntry) (p:AV×AV),MR ρ es ess->iP n es=some p->∃e,ess.find? (λe=>e.born==n)=some e/\VR ρ p.1 e.key/\VR ρ p.2 e.val:=by
 intro es
 induction es with
 |nil=>intro ess p _ h;simp [iP] at h
 |cons x es ih=>
  intro ess p hm h
  cases x with
  |mk a v m=>
   obtain⟨e,K',rfl,h1,h2,h3,h4⟩:=hm.cons_inv;simp only [iP] at h;split at h
   ·rename_i emn;injection h with h;subst h;exact⟨e,by simp [h3,emn],h1,h2⟩
   ·rename_i emn;obtain⟨e',q1,q2,q3⟩:=ih K' p h4 h;refine⟨e', ?_,q2,q3⟩;rw[List.find?_cons];have:(e.born==n)=false:=by rw[h3];simpa using emn
    rw[this];exact q1
def Hm:∀(l:List Nat),Bz l=l.getLast? :=by
 intro l
 induction l with
 |nil=>rfl
 |cons a l ih=>
  cases l with
  |nil=>rfl
  |cons b l=>show Bz (b::l)=_;rw[ih];simp [List.getLast?_cons_cons]
def Eh{x:AV}{v:Value}(hS:SI σ)(hG:Good w0 ρ σ.h w)(hx:VR ρ x v)(h:run (GD x k) σ K=true):Res P w0 ρ w k K (Instr.entry v):=by
 cases hx with
 |ptr b g o hm hh ho=>
  cases g with
  |succ g=>exact(ac h).elim
  |zero=>
   cases o with
   |succ o=>exact(ac h).elim
   |zero=>
    obtain⟨q,c7,hq,e1,b6,h⟩:=aT hS h
    have b9:Good w0 ρ c7.h w:=by rw[e1];exact hG
    cases q with
    |miter m since seen stepped=>
     obtain⟨u0,g7,hB,m',u7,c9,Yq,WT⟩:=hG.blk _ _ hq
     rw[hh] at g7;injection g7 with g7;subst g7
     cases m with
     |none=>exact(ac h).elim
     |some m=>
      obtain⟨hx,hhx,em⟩:=WT
      subst em
      obtain⟨n,hn,h⟩:=br h
      obtain⟨q2,d5,YR,e2,d8,h⟩:=aT b6 h
      have d9:Good w0 ρ d5.h w:=by rw[e2];exact b9
      cases q2 with
      |mapo es clock=>
       obtain⟨hm3,Yr,hB3,o4,P',W1⟩:=(b9.blk _ _ YR).mapo_MR;rw[hhx] at Yr;injection Yr with Yr;subst Yr;obtain⟨hc,h1⟩:=aj h;obtain⟨p,hp,h2⟩:=br h1;have hc:=aF hc;subst hc;obtain⟨e,q1,q2,q3⟩:=wT es o4.toList p W1 hp;have ae8:u7.back? =some n:=by rw[←Yq,Hm] at hn;rw[←hn];simp
       have n9:o4.find? (λe=>e.born==n)=some e:=by rw[←Array.find?_toList];exact q1
       refine .plain h2 d8 d9 (Ee q2 q3) ?_;simp [Instr.entry,Nat.zero_sub,aC c9 (by simp),aC P' (by simp),ae8,n9]
      |_=>exact(ac h).elim
    |_=>exact(ac h).elim
 |_=>exact(ac h).elim
end
end Go.Sym
namespace Go.Sym
open Go.RowKit (Below)
def ue(a b:Int):Ut a b=decide (a<b):=by
 unfold Ut;split
 ·rename_i x y
  cases h:Nat.ble (Nat.succ x) y with
  |true=>have:=Nat.ble_eq.mp h;simp;omega
  |false=>have:=Pk h;simp;omega
 ·rfl
section
variable{P:Program}{w0:World}{ρ:Rho}{w:World}{σ:St}{K:Fin}{k:AV->Tr}
def ny{mx:Bool}:∀(l:List AV) (x:AV) (vs:List Value) (v:Value),LR ρ l vs->VR ρ x v->run (fe mx l x k) σ K=true->
 ∃r u,run (k r) σ K=true/\VR ρ r u/\(vs.foldlM (if mx then Builtin.max2 else Builtin.min2) v).run P w= .ok u w:=by
 intro l
 induction l with
 |nil=>intro x vs v hl hx h;rw[hl.nil_inv];exact⟨x,v,h,hx,by simp⟩
 |cons y l ih=>
  intro x vs v hl hx h
  obtain⟨u,o7,rfl,hu,m7⟩:=hl.cons_inv
  have step:∀(j:IntKind) (a b c:Int) (r0:AV),VR ρ r0 (.int j c)->run (fe mx l r0 k) σ K=true->((if mx then Builtin.max2 else Builtin.min2) (.int j a) (.int j b)).run P w= .ok (.int j c) w->
   ∃r u,run (k r) σ K=true/\VR ρ r u/\((Value.int j b::o7).foldlM (if mx then Builtin.max2 else Builtin.min2) (.int j a)).run P w= .ok u w:=λj a b c r0 hr0 h e=>by
   obtain⟨r,u,q1,q2,q3⟩:=ih r0 o7 (.int j c) m7 hr0 h
   exact⟨r,u,q1,q2,by rw[List.foldlM_cons,aaa,e];exact q3⟩
  unfold fe at h
  split at h
  ·rename_i j a j' b;cases hx;cases hu;obtain⟨hj0,z1⟩:=aj h;clear h;have hj:=of_decide_eq_true hj0;clear hj0;subst hj;rcases bf z1 with⟨e,h⟩|⟨e,h⟩
   ·refine step j a b b _ (.int _ _) h ?_
    rw[ak] at e
    cases mx with
    |true=>simp [ue] at e;simp [Builtin.max2,e]
    |false=>simp [ue] at e;simp [Builtin.min2,e]
   ·refine step j a b a _ (.int _ _) h ?_
    rw[ak] at e
    cases mx with
    |true=>simp [ue] at e;simp [Builtin.max2];omega
    |false=>simp [ue] at e;simp [Builtin.min2];omega
  ·split at h
   ·rename_i j a j' b ea eb
    have e1:=aI hx ea
    have e2:=aI hu eb
    subst e1;subst e2
    obtain⟨hj0,z1⟩:=aj h
    clear h
    have hj:=of_decide_eq_true hj0
    clear hj0
    subst hj
    refine step j a b _ _ (.sI _ _) z1 ?_
    cases mx with
    |true=>
     simp only [if_true,Builtin.max2];by_cases YN:a<b
     ·have:max a b=b:=by omega
      simp [YN,this]
     ·have:max a b=a:=by omega
      simp [YN,this]
    |false=>
     simp only [Bool.false_eq_true,if_false,Builtin.min2];by_cases YN:b<a
     ·have:min a b=b:=by omega
      simp [YN,this]
     ·have:min a b=a:=by omega
      simp [YN,this]
   ·exact(ac h).elim
def Pv{tys:Array TypeId}{ty:TypeId}{args:List AV}{vs:List Value}(hS:SI σ)(hG:Good w0 ρ σ.h w)(hl:LR ρ args vs)(h:run (nZ true args k) σ K=true):Res P w0 ρ w k K (Builtin.max_ tys ty vs.toArray):=by
 cases args with
 |nil=>exact(ac h).elim
 |cons x rest=>obtain⟨v,o7,rfl,hv,m7⟩:=hl.cons_inv;obtain⟨r,u,q1,q2,q3⟩:=ny (P:=P) (w:=w) rest x o7 v m7 hv h;exact .plain q1 hS hG q2 (by simpa [Builtin.max_] using q3)
def Pw{tys:Array TypeId}{ty:TypeId}{args:List AV}{vs:List Value}(hS:SI σ)(hG:Good w0 ρ σ.h w)(hl:LR ρ args vs)(h:run (nZ false args k) σ K=true):Res P w0 ρ w k K (Builtin.min_ tys ty vs.toArray):=by
 cases args with
 |nil=>exact(ac h).elim
 |cons x rest=>obtain⟨v,o7,rfl,hv,m7⟩:=hl.cons_inv;obtain⟨r,u,q1,q2,q3⟩:=ny (P:=P) (w:=w) rest x o7 v m7 hv h;exact .plain q1 hS hG q2 (by simpa [Builtin.min_] using q3)
def Ei{tys:Array TypeId}{ty:TypeId}{args:List AV}{vs:List Value}(hS:SI σ)(hG:Good w0 ρ σ.h w)(hl:LR ρ args vs)(h:run (zt P tys args k) σ K=true):Res P w0 ρ w k K (Builtin.copy_ tys ty vs.toArray):=by
 unfold zt at h;split at h
 ·rename_i t d x h0
  obtain⟨v,YK,rfl,hv,u5⟩:=hl.cons_inv
  obtain⟨u,ZJ,rfl,hu,o5⟩:=u5.cons_inv
  have:=o5.nil_inv
  subst this
  obtain⟨dd,hd,h⟩:=bp h
  cases dd with
  |slice e=>
   cases hv with
   |nils=>obtain⟨i,hi,h⟩:=bE h;obtain⟨o9,h⟩:=aj h;have o9:=aU o9;obtain⟨n,h,hlen⟩:=ua (P:=P) hu h;obtain⟨l,cs,a8,e1,j7,h,hL,x8,i6⟩:=jy (P:=P) (w:=w) hS hG hu (hlen _) (aan _) o9 h;have Xz:cs= []:=List.length_eq_zero_iff.1 (by simpa using x8);subst Xz;refine .plain h j7 (by rw[e1];exact hG) (.int _ _) ?_;have hm:Nat.min n 0=0:=Nat.min_zero n;simp [Builtin.copy_,h0,run_underlying hd,hlen,hm,am hi,i6 w rfl,goInt]
   |slc b g o len cap es a c t8=>
    obtain⟨i,hi,h⟩:=bE h;obtain⟨o9,h⟩:=aj h;have o9:=aU o9;obtain⟨n,h,hlen⟩:=ua (P:=P) hu h;have h:=fg h;rw[tV] at h;obtain⟨l,cs,a8,e1,j7,h,hL,x8,i6⟩:=jy (P:=P) (w:=w) hS hG hu (hlen _) (Nat.min_le_left _ _) o9 h;have g9:Good w0 ρ a8.h w:=by rw[e1];exact hG
    rcases bf h with⟨hm,h⟩|⟨hm,h⟩
    ·have hm:=aF hm;have Xz:cs= []:=List.length_eq_zero_iff.1 (by rw[x8,hm];simp);subst Xz;refine .plain h j7 g9 (.int _ _) ?_;have u0:Nat.min n len=0:=hm;have hf:=i6 w rfl;rw[hm] at hf;rw[hm];simp [Builtin.copy_,h0,run_underlying hd,hlen,u0,am hi,hf,goInt,storeCells]
    ·have i4:0<len:=by
      rcases aaR len with e0|e0
      ·subst e0;simp at hm
      ·exact e0
     obtain⟨WT,hh,ho,ea⟩:=pe t8 i4;subst ea;obtain⟨d5,w2,q1,q2,q3,q4⟩:=fJ (P:=P) j7 g9 hh ho hL h;refine⟨_,d5,ρ,_,w2,q1,q2,q3,Rho.le.refl ρ,.int _ _, ?_⟩;have hf:=i6 w rfl;have s9:Nat.min n len=min n len:=rfl;simp [Builtin.copy_,h0,run_underlying hd,hlen,s9,am hi,hf,goInt,q4]
   |_=>exact(ac h).elim
  |_=>exact(ac h).elim
 ·exact(ac h).elim
def Ho{tys:Array TypeId}{ty t0 e:TypeId}{i:TypeInfo}{b g len:Nat}{t:List Nat}{y:AV}{v u:Value}(hS:SI σ)(hG:Good w0 ρ σ.h w)(hx:VR ρ (.gsl b g len 1) v)(hy:VR ρ y u)(XO:zr y=some t)(h0:tys[0]? =some t0)(hd:P.underlying t0=some (.slice e))(hi:P.info? e=some i)(o9:i.size=1)(h:run (N9 b g len t k) σ K=true):Res P w0 ρ w k K (Builtin.copy_ tys ty #[v,u]):=by
 obtain⟨hlen,cs,hL,x8,i6⟩:=wH (P:=P) (w:=w) hG hy XO
 have d4:=cy hS h
 obtain⟨q,c7,hq,e1,b6,z0⟩:=aT hS h
 clear h
 have b9:Good w0 ρ c7.h w:=by rw[e1];exact hG
 cases q with
 |grow c gen XE=>
  cases c with
  |rows m l=>exact(ac z0).elim
  |bytes l0=>
  obtain⟨k1,z1⟩:=aj z0
  obtain⟨k2,z2⟩:=aJ z1
  obtain⟨x0,d5,A',e2,d8,_,z3⟩:=cr b6 z2
  clear z0 z1 z2
  have k1:=aae k1
  subst k1
  have p9:c7.h.get b=some (.grow (.bytes l0) g XE):=by rw[e1];exact hq
  have hml:min t.length len<=t.length:=Nat.min_le_left _ _
  have W1:min t.length len<=len:=Nat.min_le_right _ _
  have hf:=i6 _ hml w rfl
  have ZM:∀n:Nat,goInt n=Value.int .i64 (n:Int):=λn=>rfl
  cases hx with
  |gsl _ _ _ _ hm cp hn hh w8 W2 hz=>
   rcases b9.blk _ _ p9 with Xn|⟨u0,q1,q2,q3,arr,fr,q4,q5,q6,q7,q8⟩
   ·have Xn:l0.length=0:=Xn;omega
   rw[hh] at q1;injection q1 with q1;subst q1
   have q6:l0.length * 1<=hm.size:=q6
   have ac4:(cs.take (min t.length len)).length=min t.length len:=by rw[aar,x8];omega
   have hLt:LR ρ ((bQ t).take (min t.length len)) (cs.take (min t.length len)):=⟨by rw[aar,aar,hL.1],λj a v ha hv=>by
    rw[aaV] at ha hv;split at ha
    ·rename_i hj;rw[if_pos hj] at hv;exact hL.2 j a v ha hv
    ·cases ha⟩
   obtain⟨l7,s1,s2,s3,s4,s5,s6,s7⟩:=dJ hm.blk (cs.take (min t.length len)) 0 w arr XE fr q4 (by rw[ac4];omega)
   have l8:=run_storeCells_cells (P:=P) hm.blk 0 (cs.take (min t.length len)) 0 w (λj hj=>by
    simp only [World.cell?,q4]
    simp only [Zl,Bool.false_eq_true,if_false,aas]
    rw[aaK (by omega)];rfl) (λj hj=>by
    simp only [World.frozen?,q4,aas]
    cases hx:(decide (fr.1<=0+j) && decide (0+j<fr.2)) with
    |false=>rfl
    |true=>simp only [Bool.and_eq_true,decide_eq_true_eq] at hx;exact(q7 _ (by omega) hx.1 hx.2).elim) (hLt.ones (λa ha=>by have:=List.mem_of_mem_take ha;unfold bQ at this;obtain⟨n,_,e⟩:=List.mem_map.1 this;rw[←e];rfl))
   rw[aas] at l8
   have Yl:(t.take len++l0.drop t.length).length=len:=by rw[aal,aar,aat];omega
   have B':Good w0 ρ (c7.h.set b (.grow (.bytes (t.take len++l0.drop t.length)) g XE)) (w.setCells hm.blk 0 (cs.take (min t.length len))):=by
    refine b9.turn (hrs:=⟨b,g,hm,hh,rfl⟩) p9 d4 hm.blk q3 (Kept.of_set (s7 0 (aan _)) s5 q3) (by omega) (λx hx _=>s5 x hx) (λb' g' h' g7 e'=>(hG.inj _ _ _ _ _ _ g7 hh e').1) ?_;refine .inr ⟨hm,hh,q2,q3,l7,fr,s1,by omega, ?_,q7,λi' hi' j a ha=>?_⟩
    ·show(t.take len++l0.drop t.length).length * 1<=hm.size;omega
    ·have hi':i'<(t.take len++l0.drop t.length).length:=hi'
     have ha: [AV.sI .u8 (((t.take len++l0.drop t.length).getD i' 0:Nat):Int)][j]? =some a:=ha
     cases j with
     |succ j=>simp at ha
     |zero=>
     simp only [abI] at ha
     injection ha with ha
     subst ha
     show ∃u,l7[i' * 1+0]? =some u/\_
     rw[aaC,aas]
     by_cases hit:i'<min t.length len
     ·have M':(bQ t)[i']? =some (.sI .u8 (Int.ofNat (t[i']'(by omega)))):=by unfold bQ;rw[aaE,aah (by omega)];rfl
      obtain⟨u,u1,u2⟩:=hL.get M';refine⟨u, ?_, ?_⟩
      ·have:=s3 i' (by rw[ac4];exact hit);rw[aam] at this;rw[this,aav hit];exact u1
      ·have:(t.take len++l0.drop t.length).getD i' 0=t[i']'(by omega):=by rw[aai,aaB (by rw[aar];omega),aav (by omega),aah (by omega)];rfl
       rw[this];exact u2
     ·have X7:t.length<=i':=by omega
      obtain⟨u,u1,u2⟩:=q8 i' (show i'<l0.length by omega) 0 _ rfl;have u1:arr[i' * 1+0]? =some u:=u1;rw[aaC,aas] at u1;refine⟨u,by rw[s4 i' (.inr (by rw[ac4];omega))];exact u1, ?_⟩;have:(t.take len++l0.drop t.length).getD i' 0=l0.getD i' 0:=by rw[aai,aaG (by rw[aar];omega),aax,aai];congr 2;rw[aar];omega
      rw[this];exact u2
   refine⟨_,d5,ρ,_,_,z3,d8,by rw[e2];exact B',.refl _,.sI _ _, ?_⟩
   have s9:Nat.min t.length len=min t.length len:=rfl
   simp only [Builtin.copy_,h0,aaa,run_underlying hd,aad,hlen,s9,am hi,o9,hf,l8,aac,ZM,Zu,abI,abD,aaX]
  |gnil _ _ _=>
   have ZN:l0= []:=List.length_eq_zero_iff.1 k2
   refine⟨_,d5,ρ,_,w,z3,d8, ?_,.refl _,.sI _ _, ?_⟩
   ·rw[e2];exact b9.none_turn p9 d4 (by subst ZN;simp [Ct.len]) (λ_ h=>h) (λh=>h)
   ·have s9:Nat.min t.length 0=min t.length 0:=rfl;have XF:(Builtin.firstCells 1 0 u).run P w= .ok #[] w:=by simpa using hf
    simp [Builtin.copy_,h0,run_underlying hd,hlen,am hi,o9,XF,goInt]
  |gempty _ _ _ a=>
   have ZN:l0= []:=List.length_eq_zero_iff.1 k2
   refine⟨_,d5,ρ,_,w,z3,d8, ?_,.refl _,.sI _ _, ?_⟩
   ·rw[e2];exact b9.none_turn p9 d4 (by subst ZN;simp [Ct.len]) (λ_ h=>h) (λh=>h)
   ·have s9:Nat.min t.length 0=min t.length 0:=rfl;have XF:(Builtin.firstCells 1 0 u).run P w= .ok #[] w:=by simpa using hf
    simp [Builtin.copy_,h0,run_underlying hd,hlen,am hi,o9,XF,goInt,storeCells]
 |_=>exact(ac z0).elim
def Hq{tys:Array TypeId}{ty:TypeId}{args:List AV}{vs:List Value}(hS:SI σ)(hG:Good w0 ρ σ.h w)(hl:LR ρ args vs)(h:run (Gz P tys args k) σ K=true):Res P w0 ρ w k K (Builtin.copy_ tys ty vs.toArray):=by
 unfold Gz at h;split at h
 ·rename_i d x;split at h
  ·rename_i t XO;split at h
   ·rename_i t0 h0
    obtain⟨v,YK,rfl,hv,u5⟩:=hl.cons_inv
    obtain⟨u,ZJ,rfl,hu,o5⟩:=u5.cons_inv
    have:=o5.nil_inv
    subst this
    obtain⟨dd,hd,h⟩:=bp h
    cases dd with
    |slice e=>
     obtain⟨i,hi,h⟩:=bE h
     obtain⟨o9,h⟩:=aj h
     have o9:=aae o9
     have grown:∀(a:AV) (a8:St),SI a8->Good w0 ρ a8.h w->VR ρ a v->run (Gy t k a) a8 K=true->Res P w0 ρ w k K (Builtin.copy_ tys ty #[v,u]):=by
      intro a a8 j7 g9 ha z
      cases a with
      |gsl b g len es=>obtain⟨n8,z1⟩:=aj z;have n8:=aae n8;subst n8;exact Ho j7 g9 ha hu XO h0 hd hi o9 z1
      |_=>exact(ac z).elim
     cases d with
     |gsl b g len es=>exact grown _ _ hS hG hv h
     |slc b g o len cap es=>obtain⟨n8,z1⟩:=aj h;have n8:=aae n8;obtain⟨a8,z3,j7,g9,_,U'⟩:=da hS hG iV z1;rw[n8] at hv;exact grown _ _ j7 g9 (U' ρ (.refl _) _ hv) z3
     |_=>exact(ac h).elim
    |_=>exact(ac h).elim
   ·exact(ac h).elim
  ·exact Ei hS hG hl h
 ·exact(ac h).elim
def rl{t:TypeId}{x y:AV}{v u:Value}(hS:SI σ)(hG:Good w0 ρ σ.h w)(hx:VR ρ x v)(hy:VR ρ y u)(h:run (oR P t x y k) σ K=true):Res P w0 ρ w k K (Instr.makeSlice t v u):=by
 obtain⟨j1,n1,e1,h1⟩:=kC h
 obtain⟨j2,n2,e2,h2⟩:=kC h1
 obtain⟨l,e3,h3⟩:=tT h2
 obtain⟨c,e4,h4⟩:=tT h3
 clear h h1 h2 h3
 subst e1;subst e2;subst e3;subst e4
 have h:=h4
 clear h4
 cases hx;cases hy
 obtain⟨d,hu,h⟩:=bp h
 cases d with
 |slice e=>
  obtain⟨Wz,h⟩:=aj h;obtain⟨hc,h⟩:=aj h;have Wz:=aU Wz;have hc:=aU hc;obtain⟨i,hi,h⟩:=Oa h;obtain⟨W0,h⟩:=aj h;have W0:=aU W0;obtain⟨o9,h⟩:=aj (fg h);have o9:=aU o9;obtain⟨z,zv,i',hi',hz,WN,h⟩:=j_ ρ w h;obtain⟨zl,ZF,h⟩:=fi WN h;obtain⟨XA,h⟩:=aj h;have XA:=aF XA;have h:=eO h;have YX:=rV ZF (by omega) c;rw[XA] at YX;obtain⟨q1,q2⟩:=LR.to_arr YX;obtain⟨b,a8,h5,j7,hle,g9⟩:=jx _ e hS hG q1 q2 h;refine⟨_,a8,_,_,_,h5,j7,g9,hle,VR.slc b 0 0 l (some c) i.size _ c ⟨Wz,rfl,_,Rho.put_at _ _ _ _,aan _,rfl⟩, ?_⟩;have hbc:i.bytes * c<=1000 * 1000000:=ZX W0 hc;have w1:IntKind.wrap .i64 (l:Int)=l:=by simp [IntKind.wrap,IntKind.bits,IntKind.signed,Int.bmod_def];omega
  have w2:IntKind.wrap .i64 (c:Int)=c:=by simp [IntKind.wrap,IntKind.bits,IntKind.signed,Int.bmod_def];omega
  have ah7:¬((i.bytes:Int) * (c:Int) > 2 ^ 48):=by rw[←Int.natCast_mul];omega
  have t1:((decide ((c:Int)<0) || decide ((i.bytes:Int) * (c:Int) > 2 ^ 48)) || decide ((l:Int)<0) || decide ((l:Int) > (c:Int)))=false:=by simp only [ah7,decide_false,Bool.or_false,Bool.or_eq_false_iff,decide_eq_false_iff_not];omega
  simp only [Instr.makeSlice,aaa,run_underlying hu,aad,asInt,asIntOf,aac,typeInfo,run_program,hi,w1,w2,am hi];rw[if_neg (by rw[t1];simp)];by_cases e0:c * i.size=0
  ·have:c=0:=by
    rcases Nat.mul_eq_zero.mp e0 with h'|h'
    ·exact h'
    ·omega
   subst this;have e0':∀f g:Nat->Value,(Array.range 0).map f=(Array.range 0).map g:=λf g=>by simp
   simp [newRow,am hi];congr 2;exact e0' _ _
  ·simp [e0,hz,newRow,am hi]
 |_=>exact(ac h).elim
def px{x:AV}{v:Value}{xt t:TypeId}{ok:Bool}(hS:SI σ)(hG:Good w0 ρ σ.h w)(hx:VR ρ x v)(h:run (nu P x t ok k) σ K=true):Res P w0 ρ w k K (Instr.typeAssert v xt t ok):=by
 obtain⟨d,hu,h⟩:=bp h
 have hd:(∃ms,d= .interface ms)∨∀ms,d≠ .interface ms:=by cases d <;> first|exact .inl ⟨_,rfl⟩|exact .inr λ_ e=>by cases e
 rcases hd with⟨ms,rfl⟩|hd
 ·exact(ac h).elim
 cases hx with
 |iface u y vv hv=>
  have h5:run (aa (Nat.beq u t) (aa ok (k (.tup [y,.bool true])) (k y)) (aa ok (fF P t λz=>k (.tup [z,.bool false])) .fail)) σ K=true:=by cases d <;> first|exact absurd rfl (hd _)|exact h
  clear h;rcases bf h5 with⟨he,h6⟩|⟨he,h⟩
  ·have he':=aF he;clear he h5;subst he';rcases bf h6 with⟨Y4,h7⟩|⟨Y4,h7⟩
   ·subst Y4;refine .plain h7 hS hG (Ee hv (.bool true)) ?_;cases d <;> first|exact absurd rfl (hd _)|simp [Instr.typeAssert,run_underlying hu]
   ·subst Y4;refine .plain h7 hS hG hv ?_;cases d <;> first|exact absurd rfl (hd _)|simp [Instr.typeAssert,run_underlying hu]
  ·have he:¬u=t:=λe=>by subst e;simp at he
   obtain⟨Y4,h⟩:=aj h;subst Y4;obtain⟨z,zv,i,_,hz,WN,h⟩:=j_ ρ w h;refine .plain h hS hG (Ee WN (.bool false)) ?_;cases d <;> first|exact absurd rfl (hd _)|simp [Instr.typeAssert,run_underlying hu,he,hz]
 |nili=>
  have h:run (aa ok (fF P t λz=>k (.tup [z,.bool false])) .fail) σ K=true:=by cases d <;> first|exact absurd rfl (hd _)|exact h
  obtain⟨Y4,h⟩:=aj h;subst Y4;obtain⟨z,zv,i,_,hz,WN,h⟩:=j_ ρ w h;refine .plain h hS hG (Ee WN (.bool false)) ?_;cases d <;> first|exact absurd rfl (hd _)|simp [Instr.typeAssert,run_underlying hu,hz]
 |_=>exact(ac (by cases d <;> exact h)).elim
end
end Go.Sym
